/- The abstract machine: freezing, and what a function hands back. The abstract machine: its conditions as rewriting rules. The abstract machine: fewer objects, less known; loops; whole functions. The abstract machine: contracts of functions that hand back values alone. The abstract machine: the set of its rewriting rules. The abstract machine: what a function is handed, read into values. The abstract machine: values that say less; nil in a cell becomes a new slice of no elements. The abstract machine: a region whose order is drawn, with a store that some quiet operations may come behind. The abstract machine: an array's capacity comes to be known; an object dies, or gets a new number. The abstract machine: calls on a stretch of the caller's objects; loops and functions whose objects are a list that grows. -/
import Derived.ChangeArms
import GoSem.ClaimJoined
import Derived.Test.YtnlobbbbgcdiiaaB2
set_option linter.unusedSimpArgs false
set_option linter.unusedVariables false
set_option maxRecDepth 10000
set_option maxHeartbeats 4000000
open List renaming replicate → Za, getElem?_eq_getElem → Zb, getD_eq_getElem?_getD → Zc, getElem?_eq_some_iff → Zd, getElem?_map → Ze, mem_of_getElem? → Zh, range → Zi, getElem?_append_left → Zk, getElem?_eq_none → Zl, getElem?_append_right → Zm, ext_getElem? → Zn, nil_append → Zq, length_map → Zr, getElem?_set_ne → Zs, append_nil → Zt, getElem?_set_self → Zu, mem_cons → Zv, mem_map → Zx, length_replicate → Zy, mem_append → Zz, getElem?_inj → ZA, getElem?_set → ZB, getElem?_cons_succ → ZC, replicate_succ → ZD, length_append → ZE, take_append_drop → ZF, eq_nil_of_length_eq_zero → ZG, flatten_cons → ZI, append_assoc → ZJ
open Option renaming map_some → Zf
open Nat renaming le_refl → Zg, zero_add → Zj, min → Zp, mul_le_mul_right → ZH
open Array renaming mapM_eq_mapM_toList → Zw
section
section
namespace Go.Pm
open Go.RowKit
section
variable {w : World} {Zo : Nat → Prop} {m : List Ob} {β : List Lc}
theorem SW.freeze {P : Program} {c : Code} {st : St} {Q : Exit → St → Prop} (qs : List Nat) (h : SW P c ⟨convs (frzM qs st.m) st.t,frzM qs st.m,convs (frzM qs st.m) st.g⟩ Q) : SW P c st Q:=by
 intro w0 E Zo gh a w ⟨β,M,h1,h2,h3,h4,h5⟩
 obtain ⟨M1,hle,hl⟩:=M.frz qs
 exact h w0 E Zo gh a w ⟨β,M1,fun b hb=>h1 b (hl b hb),h2,h3,convs_sound M1 _ _ (h4.mono hle),convs_sound M1 _ _ (h5.mono hle)⟩
theorem Mem.keep (M : Mem w Zo m β) (ks : List Nat) (hn : ks.Nodup) (hlt : ∀ q ∈ ks,q < m.length) (hp : ∀ q ∈ ks,(m.getD q .hole).pure) :
  ∃ β',Mem w Zo (ks.map fun q=>m.getD q .hole) β' ∧ Tr (cx w Zo m β) (cx w Zo (ks.map fun q=>m.getD q .hole) β') (idx ks) (fun q=>q ∈ ks) ∧
   (∀ b,liveAt (ks.map fun q=>m.getD q .hole) β' b → liveAt m β b):=by
 have g1 : ∀ (j : Nat) (ob : Ob),(ks.map fun q=>m.getD q .hole)[j]? = some ob → ∃ q,ks[j]? = some q ∧ m[q]? = some ob:=by
  intro j ob h
  rw [Ze] at h
  cases hk : ks[j]? with
  | none=>rw [hk] at h; cases h
  | some q =>
   rw [hk] at h
   have hq:=hlt q (Zh hk)
   refine ⟨q,rfl,?_⟩
   rw [Zb hq]
   simp only [Zf,Option.some.injEq] at h
   rw [Zc,Zb hq] at h
   simpa using h
 have g2 : ∀ (j : Nat) (l : Lc) (q : Nat),ks[j]? = some q → (ks.map fun q=>β.getD q ⟨0,0⟩)[j]? = some l → β[q]? = some l:=by
  intro j l q hk h
  have hq:=hlt q (Zh hk)
  rw [Ze,hk] at h
  simp only [Zf,Option.some.injEq] at h
  rw [Zc,Zb (by rw [M.len]; exact hq)] at h
  rw [Zb (by rw [M.len]; exact hq)]
  simpa using h
 have hlive : ∀ b,liveAt (ks.map fun q=>m.getD q .hole) (ks.map fun q=>β.getD q ⟨0,0⟩) b → liveAt m β b:=by
  rintro b ⟨j,ob,l,h1,h2,h3⟩
  obtain ⟨q,hk,hm⟩:=g1 j ob h1
  exact ⟨q,ob,l,hm,g2 j l q hk h2,h3⟩
 have hfz : ∀ b,(cx w Zo m β).fz b → (cx w Zo (ks.map fun q=>m.getD q .hole) (ks.map fun q=>β.getD q ⟨0,0⟩)).fz b :=
  fun b h=>⟨h.1,fun hz=>h.2 (hz.imp id (hlive b))⟩
 have htr : Tr (cx w Zo m β) (cx w Zo (ks.map fun q=>m.getD q .hole) (ks.map fun q=>β.getD q ⟨0,0⟩)) (idx ks) (fun q=>q ∈ ks):=by
  refine ⟨fun b h=>⟨hfz b h,rfl⟩,fun q hq=>?_⟩
  have hk:=idx_get hq
  have hql:=hlt q hq
  have e1 : (ks.map fun q=>m.getD q .hole)[idx ks q]? = m[q]?:=by
   rw [Ze,hk,Zb hql]
   simp [Zc,hql]
  have e2 : (ks.map fun q=>β.getD q ⟨0,0⟩)[idx ks q]? = β[q]?:=by
   have hql' : q < β.length:=by rw [M.len]; exact hql
   rw [Ze,hk,Zb hql']
   simp [Zc,hql']
  show obLe m[q]? β[q]? (ks.map fun q=>m.getD q .hole)[idx ks q]? (ks.map fun q=>β.getD q ⟨0,0⟩)[idx ks q]?
  rw [e1,e2]
  exact obLe_refl _ _
 refine ⟨ks.map fun q=>β.getD q ⟨0,0⟩,⟨by simp,?_,?_,fun b h=>M.out b (hlive b h),M.zlt⟩,htr,hlive⟩
 ·intro j ob l h1 h2
  obtain ⟨q,hk,hm⟩:=g1 j ob h1
  have hβ:=g2 j l q hk h2
  have hok:=M.ok q ob l hm hβ
  have hpu:=hp q (Zh hk)
  rw [Zc,hm] at hpu
  have htr0 : Tr (cx w Zo m β) (cx w Zo (ks.map fun q=>m.getD q .hole) (ks.map fun q=>β.getD q ⟨0,0⟩)) (idx ks) (fun _=>False):=⟨htr.fz,fun _ h=>h.elim⟩
  cases ob with
  | hole=>trivial
  | dead=>trivial
  | box lv cs =>
   obtain ⟨us,e,fr,k1,k2,k3,k4,k5⟩:=hok
   refine ⟨us,e,fr,k1,k2,k3,?_,k5.imp id (hfz _)⟩
   have:=RC.tr htr0 l.b rfl cs 0 hpu k4
   rwa [rens_pure cs hpu] at this
  | arr lv sz xs =>
   obtain ⟨k1,k2,k3,k4⟩:=hok
   refine ⟨k1,k2,k3,k4.imp id ?_⟩
   rintro ⟨us,e,fr,q1,q2,q3,q4,q5⟩
   refine ⟨us,e,fr,q1,q2,q3,?_,q5.imp id (hfz _)⟩
   have:=RR.tr htr0 sz l.b rfl xs 0 hpu q4
   rwa [renss_pure xs hpu] at this
  | mp lv ks' vs =>
   obtain ⟨es,n,k1,k2,k3,kb,k4⟩:=hok
   refine ⟨es,n,k1,?_,?_,kb,k4.imp id (hfz _)⟩
   ·have:=RVs.tr htr0 ks' _ hpu.1 k2
    rwa [rens_pure ks' hpu.1] at this
   ·have:=RVs.tr htr0 vs _ hpu.2 k3
    rwa [rens_pure vs hpu.2] at this
 ·intro j j' ob ob' l l' b h1 h2 h3 h4 h5 h6
  obtain ⟨q,hk,hm⟩:=g1 j ob h1
  obtain ⟨q',hk',hm'⟩:=g1 j' ob' h2
  have e:=M.sep q q' ob ob' l l' b hm hm' (g2 j l q hk h3) (g2 j' l' q' hk' h4) h5 h6
  subst e
  exact (ZA (Zd.1 hk).1 hn).1 (hk.trans hk'.symm)
end
theorem frzM_other : ∀ (qs : List Nat) (m : List Ob) (q : Nat),q ∉ qs → (frzM qs m)[q]? = m[q]?
 | [],m,q,_=>rfl
 | p :: qs,m,q,h=>by
   simp only [frzM]
   rw [frzM_other qs _ q (fun h'=>h (List.mem_cons_of_mem _ h'))]
   unfold Pm.frz1
   split
   ·rw [Zs (fun e=>h (by rw [e]; exact List.mem_cons_self))]
   ·rfl
def resV (P : Program) (st : St) : List ResultVar → List V → (List V → Prop) → Prop
 | [],acc,K=>K acc
 | .tmp t :: rs,acc,K=>resV P st rs (acc ++ [st.t.getD t .junk]) K
 | .cell a t :: rs,acc,K=>ldVC P t st.m (st.t.getD a .junk) (fun x=>resV P st rs (acc ++ [x]) K)
def packV : List V → V
 | [x]=>x
 | xs=>.tup xs
def retVC (P : Program) (fn : Func) (ks : List Nat) (st : St) (r : V) (mr : List Ob) : Prop :=
 ks.Nodup ∧ (∀ q ∈ ks,q < st.m.length) ∧ (∀ q ∈ ks,(st.m.getD q .hole).pure) ∧ mr = (ks.map fun q=>st.m.getD q .hole) ∧
  resV P st fn.results.toList [] (fun xs=>Ref (fun q=>q ∈ ks) (conv (frzM ((Zi st.m.length).filter fun q=>!ks.contains q) st.m) (packV xs)) ∧
   r = (conv (frzM ((Zi st.m.length).filter fun q=>!ks.contains q) st.m) (packV xs)).ren (idx ks))
section
variable {P : Program}
theorem ld_sound {w : World} {Zo : Nat → Prop} {m : List Ob} {β : List Lc} {t : TypeId} {x : V} {v : Value} {K : V → Prop} (M : Mem w Zo m β) (h : ldVC P t m x K) (hv : RV (cx w Zo m β) x v) :
  ∃ r,K r ∧ ∃ A,v = .pointer (some A) ∧ ∃ u,(Go.loadVar t A).run P w = .ok u w ∧ RV (cx w Zo m β) r u:=by
 unfold ldVC at h
 split at h
 ·rename_i sz ag hl
  split at h
  ·rename_i p off
   split at h
   ·rename_i lv cs hT
    obtain ⟨hm,l,_,⟨us,e,fr,_,_,_,hrc,_⟩,e2⟩:=at_ptr M (Agree.refl m) hT hv (by simp)
    have:=hrc.drop off
    rw [Zj] at this
    obtain ⟨r,h1,u,h2,h3⟩:=rd_sound (P:=P) (c:=cx w Zo m β) hl this h
    exact ⟨r,h1,_,e2,u,h2,h3⟩
   ·exact h.elim
  ·rename_i p i off
   split at h
   ·rename_i lv sz' xs hT
    obtain ⟨hi,h⟩:=h
    obtain ⟨hm,l,_,⟨g1,g2,g3,g4⟩,e2⟩:=at_eptr M (Agree.refl m) hT hv
    rcases g4 with g4 | ⟨us,e,fr,_,_,_,hrr,_⟩
    ·omega
    have:=(hrr.at_ hi).drop off
    rw [Zj] at this
    obtain ⟨r,h1,u,h2,h3⟩:=rd_sound (P:=P) (c:=cx w Zo m β) hl this h
    exact ⟨r,h1,_,e2,u,h2,h3⟩
   ·exact h.elim
  ·rename_i sz' xs i off
   obtain ⟨hi,h⟩:=h
   obtain ⟨b,p,e2,_,hrr⟩:=hv
   obtain ⟨r,h1,u,h2,h3⟩:=rd_sound (P:=P) (c:=cx w Zo m β) hl ((hrr.at_ hi).drop off) h
   exact ⟨r,h1,_,e2,u,h2,h3⟩
  ·rename_i cs off
   obtain ⟨b,e2,_,hrc⟩:=hv
   have:=hrc.drop off
   rw [Zj] at this
   obtain ⟨r,h1,u,h2,h3⟩:=rd_sound (P:=P) (c:=cx w Zo m β) hl this h
   exact ⟨r,h1,_,e2,u,h2,h3⟩
  ·exact h.elim
 ·exact h.elim
def oneRes (tmps : Array Value) : ResultVar → Sem Value
 | .tmp t=>pure (tmps.getD t undef)
 | .cell a t=>do loadVar t (← asAddr (tmps.getD a undef))
theorem results_eq (fn : Func) (tmps : Array Value) : results fn tmps = (do
  let vs ← fn.results.mapM (oneRes tmps)
  pure (if h : vs.size = 1 then vs[0] else .tuple vs)):=by
 unfold results
 congr 1
theorem RVs.one {c : Cx} {x : V} {u : Value} (h : RV c x u) : RVs c [x] [u]:=⟨u,[],rfl,h,rfl⟩
theorem res_sound {w : World} {Zo : Nat → Prop} {β : List Lc} {st : St} {tmps : Array Value} (M : Mem w Zo st.m β) (ht : RVs (cx w Zo st.m β) st.t tmps.toList) :
  ∀ (rs : List ResultVar) (acc : List V) (K : List V → Prop) (us : List Value),RVs (cx w Zo st.m β) acc us → resV P st rs acc K →
   ∃ xs vs,K xs ∧ RVs (cx w Zo st.m β) xs (us ++ vs) ∧ (rs.mapM (oneRes tmps)).run P w = .ok vs w
 | [],acc,K,us,h,k=>⟨acc,[],k,by simpa using h,by simp⟩
 | .tmp t :: rs,acc,K,us,h,k=>by
   have hv:=ht.getD t undef
   have h2 : tmps.toList.getD t undef = tmps.getD t undef:=by simp
   rw [h2] at hv
   obtain ⟨xs,vs,h3,h4,h5⟩:=res_sound M ht rs _ K (us ++ [tmps.getD t undef]) (h.append (RVs.one hv)) k
   refine ⟨xs,tmps.getD t undef :: vs,h3,by simpa using h4,?_⟩
   simp only [List.mapM_cons,Sem.run_bind,oneRes,Sem.run_pure,Result.andThen_ok,h5]
 | .cell a t :: rs,acc,K,us,h,k=>by
   have hv:=ht.getD a undef
   have h2 : tmps.toList.getD a undef = tmps.getD a undef:=by simp
   rw [h2] at hv
   obtain ⟨r,k1,A,e,u,h6,h7⟩:=ld_sound M k hv
   obtain ⟨xs,vs,h3,h4,h5⟩:=res_sound M ht rs _ K (us ++ [u]) (h.append (RVs.one h7)) k1
   refine ⟨xs,u :: vs,h3,by simpa using h4,?_⟩
   simp only [List.mapM_cons,Sem.run_bind,oneRes,e]
   simp [asAddr,h6,h5]
theorem pack_sound {c : Cx} {xs : List V} {vs : List Value} (h : RVs c xs vs) : RV c (packV xs) (if h : vs.toArray.size = 1 then vs.toArray[0] else .tuple vs.toArray):=by
 have hl:=h.length
 match xs,h with
 | [x],⟨u,us',e,h1,h2⟩ =>
  have h2 : us' = []:=h2
  subst h2; subst e
  simpa [packV] using h1
 | [],h =>
  have h' : vs = []:=h
  subst h'
  simp only [List.size_toArray,List.length_nil,Nat.zero_ne_one,dite_false,packV]
  exact ⟨#[],rfl,h⟩
 | x :: y :: xs,h =>
  have : ¬ vs.toArray.size = 1:=by simp at hl ⊢; omega
  rw [dif_neg this]
  exact ⟨vs.toArray,rfl,by simpa using h⟩
theorem Contract.of {f : FuncId} {fn : Func} {c : Code} {args : List V} {r : V} {mr : List Ob} (hf : P.funcs[f]? = some fn) (hb : fn.body = some c)
  (h : SW P c ⟨args ++ Za (fn.ntmps - args.length) .junk,[],[]⟩ (fun e st=>e = .ret ∧ ∃ ks,retVC P fn ks st r mr)) : Contract P f args r mr:=by
 intro w Zo us hz hargs
 have hlen:=hargs.length
 refine calls_of_wp hf hb ?_
 have M0 : Mem w Zo [] []:=⟨rfl,fun o ob l h=>by simp at h,fun o o' ob ob' l l' b h=>by simp at h,fun b ⟨o,ob,l,h,_⟩=>by simp at h,hz⟩
 have hrep : ∀ n,RVs (cx w Zo [] []) (Za n .junk) (Za n undef):=by
  intro n
  induction n with
  | zero=>rfl
  | succ n ih=>exact ⟨undef,Za n undef,rfl,trivial,ih⟩
 refine wp_mono (h w (fun _=>False) Zo [] _ w ⟨[],M0,fun b ⟨o,ob,l,h,_⟩=>by simp at h,Frame.refl _ w,rfl,?_,rfl⟩) ?_
 ·have:=hargs.append (hrep (fn.ntmps - args.length))
  simpa [hlen] using this
 ·rintro e a' w' ⟨st',⟨rfl,ks,hk⟩,β,M,h1,h2,h3,h4,_⟩
  obtain ⟨k1,k2,k3,k4,k5⟩:=hk
  subst k4
  obtain ⟨xs,vs,⟨q1,q2⟩,q3,q4⟩:=res_sound (P:=P) M h4 fn.results.toList [] _ [] rfl k5
  have hres : (results fn a'.tmps).run P w' = .ok (if h : vs.toArray.size = 1 then vs.toArray[0] else .tuple vs.toArray) w':=by
   rw [results_eq,Zw]
   simp [Sem.run_bind,q4]
  obtain ⟨M1,hle,hl⟩:=M.frz ((Zi st'.m.length).filter fun q=>!ks.contains q)
  have hsame : ∀ q ∈ ks,(frzM ((Zi st'.m.length).filter fun q=>!ks.contains q) st'.m)[q]? = st'.m[q]?:=by
   intro q hq
   refine frzM_other _ _ q (fun h=>?_)
   have:=(List.mem_filter.1 h).2
   simp [hq] at this
  have hgd : ∀ q ∈ ks,(frzM ((Zi st'.m.length).filter fun q=>!ks.contains q) st'.m).getD q .hole = st'.m.getD q .hole:=by
   intro q hq
   rw [Zc,Zc,hsame q hq]
  obtain ⟨β',M2,htr,hl2⟩:=M1.keep ks k1 (fun q hq=>by rw [frzM_length]; exact k2 q hq) (fun q hq=>by rw [hgd q hq]; exact k3 q hq)
  have hmr : (ks.map fun q=>(frzM ((Zi st'.m.length).filter fun q=>!ks.contains q) st'.m).getD q .hole) = ks.map fun q=>st'.m.getD q .hole :=
   List.map_congr_left hgd
  rw [hmr] at M2 htr hl2
  have hv:=conv_sound M1 _ _ ((pack_sound q3).mono hle)
  have hv2:=RV.tr htr _ _ q1 hv
  rw [← q2] at hv2
  refine ⟨h3,_,hres,_,β',rfl,?_,M2,by simpa using hv2,fun b hb=>?_⟩
  ·exact h2
  ·rcases h1 b (hl b (hl2 b hb)) with h | h
   ·exact h.elim
   ·exact h
end
end Go.Pm
end
section
namespace Go.Pm
open Go.RowKit
theorem nr {α : Type} {a b : α} (h : a = b) : a = b:=h
def oB {α : Type} (x : Option α) (K : α → Prop) : Prop:=match x with
 | some a=>K a
 | none=>False
def nrm {α : Type} (x : α) : α:=x
theorem nrm_some {α : Type} (a : α) : nrm (some a) = some a:=nr rfl
def oP {α β : Type} (x : Option (α × β)) (K : α → β → Prop) : Prop:=match x with
 | some (a,b)=>K a b
 | none=>False
theorem oP_some {α β : Type} (a : α) (b : β) (K : α → β → Prop) : oP (some (a,b)) K = K a b:=nr rfl
def oT {α β γ : Type} (x : Option (α × β × γ)) (K : α → β → γ → Prop) : Prop:=match x with
 | some (a,b,c)=>K a b c
 | none=>False
theorem oB_some {α : Type} (a : α) (K : α → Prop) : oB (some a) K = K a:=nr rfl
theorem oB_none {α : Type} (K : α → Prop) : oB none K = False:=nr rfl
class KO (α : Type) where
 k : α → Prop
class KP (α β : Type) where
 k : α → β → Prop
class KT (α β γ : Type) where
 k : α → β → γ → Prop
def hB {α : Type} (x : Option α) [kb : KO α] : Prop:=oB x kb.k
@[congr] theorem hB_congr {α : Type} {x y : Option α} [kb : KO α] (h : x = y) : hB x = hB y:=by rw [h]
theorem oB_h {α : Type} (x : Option α) (K : α → Prop) : oB x K = @hB _ x ⟨K⟩:=nr rfl
theorem hB_some {α : Type} (a : α) (K : α → Prop) : @hB _ (some a) ⟨K⟩ = K a:=nr rfl
def hP {α β : Type} (x : Option (α × β)) [kb : KP α β] : Prop:=oP x kb.k
@[congr] theorem hP_congr {α β : Type} {x y : Option (α × β)} [kb : KP α β] (h : x = y) : hP x = hP y:=by rw [h]
theorem oP_h {α β : Type} (x : Option (α × β)) (K : α → β → Prop) : oP x K = @hP _ _ x ⟨K⟩:=nr rfl
theorem hP_some {α β : Type} (a : α) (b : β) (K : α → β → Prop) : @hP _ _ (some (a,b)) ⟨K⟩ = K a b:=nr rfl
def hT {α β γ : Type} (x : Option (α × β × γ)) [kb : KT α β γ] : Prop:=oT x kb.k
def gB (x : V) (want : Bool) (A B : Prop) : Prop:=match x with
 | .bool b=>if b = want then A else B
 | .tup []=>B
 | _=>False
@[congr] theorem gB_congr {x y : V} {w : Bool} {A B : Prop} (h : x = y) : gB x w A B = gB y w A B:=by rw [h]
theorem gB_u (w : Bool) (A B : Prop) : gB (.tup []) w A B = B:=by simp [gB]
theorem gB_tt (A B : Prop) : gB (.bool true) true A B = A:=by simp [gB]
theorem gB_ft (A B : Prop) : gB (.bool false) true A B = B:=by simp [gB]
theorem gB_tf (A B : Prop) : gB (.bool true) false A B = B:=by simp [gB]
theorem gB_ff (A B : Prop) : gB (.bool false) false A B = A:=by simp [gB]
theorem gB_split {b : Bool} {w : Bool} {A B : Prop} (h1 : b = w → A) (h2 : b = (!w) → B) : gB (.bool b) w A B:=by
 unfold gB
 by_cases h : b = w
 ·simp only [h,if_true]; exact h1 h
 ·simp only [h,if_false]; exact h2 (by cases b <;> cases w <;> simp_all)
def gO (g : Option (Nat × Bool)) (ds : List (Option Tmp)) (t : List V) (A B : Prop) : Prop:=match g with
 | none=>A
 | some (j,want)=>oB (ds.getD j none) fun d=>gB (t.getD d .junk) want A B
theorem gO_some (j : Nat) (w : Bool) (ds : List (Option Tmp)) (t : List V) (A B : Prop) : gO (some (j,w)) ds t A B = oB (ds.getD j none) fun d=>gB (t.getD d .junk) w A B:=nr rfl
theorem gv_eq (ds : List (Option Tmp)) (o : Oper) (t : List V) (A B : Prop) : gv ds o t A B = gO o.guard ds t A B:=by
 unfold gv gO
 cases o.guard with
 | none=>rfl
 | some g =>
  obtain ⟨j,w⟩:=g
  simp only
  cases ds.getD j none with
  | none=>rfl
  | some d =>
   simp only [oB]
   cases t.getD d .junk <;> try rfl
   case bool b=>cases b <;> cases w <;> simp [gB]
   case tup xs=>cases xs <;> rfl
@[congr] theorem RS_congr {P : Program} {ds ds' : List (Option Tmp)} {os : List Oper} {st st' : St} {K : St → Prop} (h1 : ds = ds') (h2 : st = st') : RS P ds os st K = RS P ds' os st' K:=by rw [h1,h2]
@[congr] theorem RQ_congr {P : Program} {ds ds' : List (Option Tmp)} {k : Nat} {os : List Oper} {st st' : St} {K : St → Prop} (h1 : ds = ds') (h2 : st = st') : RQ P ds k os st K = RQ P ds' k os st' K:=by rw [h1,h2]
theorem RS_nil {P : Program} {ds : List (Option Tmp)} {st : St} {K : St → Prop} : RS P ds [] st K = K st:=nr rfl
theorem RS_cons {P : Program} {ds : List (Option Tmp)} {o : Oper} {os : List Oper} {st : St} {K : St → Prop} :
  RS P ds (o :: os) st K = gO o.guard ds st.t (S1 P o st (fun st'=>RS P ds os st' K)) (RS P ds os ⟨putT st.t o.dst (.tup []),st.m,st.g⟩ K):=by
 rw [RS,gv_eq]
theorem set_known {t : List V} {d : Nat} {b : Bool} (h : t.getD d .junk = .bool b) : t.set d (.bool b) = t:=by
 apply Zn
 intro i
 rw [ZB]
 split
 ·rename_i e
  subst e
  rw [Zc] at h
  cases hd : t[d]? with
  | none=>rw [hd] at h; cases h
  | some x =>
   rw [hd] at h
   have : d < t.length:=(Zd.1 hd).1
   simp only [Option.getD_some] at h
   simp [this,h]
 ·rfl
def gsV (w : Bool) : V → V
 | .bool _=>.bool (!w)
 | x=>x
def gset (t : List V) (d : Nat) (w : Bool) : List V:=t.set d (gsV w (St.ev t (.tmp d)))
theorem gsV_b {w b : Bool} : gsV w (.bool b) = .bool (!w):=nr rfl
theorem gsV_u {w : Bool} : gsV w (.tup []) = .tup []:=nr rfl
theorem gset_eq {t : List V} {d : Nat} {w : Bool} : gset t d w = t.set d (gsV w (St.ev t (.tmp d))):=nr rfl
theorem gO_known {ds : List (Option Tmp)} {t : List V} (j : Nat) (w : Bool) (A B : List V → Prop) :
  gO (some (j,w)) ds t (A t) (B t) = oB (nrm (ds.getD j none)) fun d'=>gB (St.ev t (.tmp d')) w (A (t.set d' (.bool w))) (B (gset t d' w)):=by
 rw [gO_some]
 unfold nrm
 cases ds.getD j none with
 | none=>rfl
 | some d =>
  simp only [oB_some]
  show gB (t.getD d .junk) w (A t) (B t) = gB (t.getD d .junk) w _ _
  have hs : St.ev t (.tmp d) = t.getD d .junk:=rfl
  unfold gset
  rw [hs]
  cases h : t.getD d .junk <;> try rfl
  case bool b =>
   unfold gB
   by_cases e : b = w
   ·subst e
    simp only [if_true]
    rw [set_known h]
   ·simp only [e,if_false]
    have e' : b = !w:=by cases b <;> cases w <;> simp_all
    subst e'
    show B t = B (t.set d (.bool (!w)))
    rw [set_known h]
  case tup xs =>
   cases xs with
   | cons x xs=>rfl
   | nil =>
    show B t = B (t.set d (.tup []))
    congr 1
    apply Zn
    intro i
    rw [ZB]
    split
    ·rename_i e
     subst e
     rw [Zc] at h
     cases hd : t[d]? with
     | none=>rw [hd] at h; cases h
     | some x =>
      rw [hd] at h
      have : d < t.length:=(Zd.1 hd).1
      simp only [Option.getD_some] at h
      simp [this,h]
    ·rfl
theorem RS_cons_n {P : Program} {ds : List (Option Tmp)} {os : List Oper} {t : List V} {m : List Ob} {gs : List V} {K : St → Prop} {d : Option Tmp} {op : Op} {ty : TypeId} {ps : String} {af : Array Edge} :
  RS P ds (⟨d,op,ty,ps,af,none⟩ :: os) ⟨t,m,gs⟩ K = S1 P ⟨d,op,ty,ps,af,none⟩ ⟨t,m,gs⟩ (fun st'=>RS P ds os st' K):=by
 rw [RS_cons]; rfl
theorem RS_cons_g {P : Program} {ds : List (Option Tmp)} {os : List Oper} {t : List V} {m : List Ob} {gs : List V} {K : St → Prop} {d : Option Tmp} {op : Op} {ty : TypeId} {ps : String} {af : Array Edge} {j : Nat} {w : Bool} :
  RS P ds (⟨d,op,ty,ps,af,some (j,w)⟩ :: os) ⟨t,m,gs⟩ K = oB (nrm (ds.getD j none)) fun d'=>gB (St.ev t (.tmp d')) w (S1 P ⟨d,op,ty,ps,af,some (j,w)⟩ ⟨t.set d' (.bool w),m,gs⟩ (fun st'=>RS P ds os st' K)) (RS P ds os ⟨putT (gset t d' w) d (.tup []),m,gs⟩ K):=by
 rw [RS_cons]
 exact gO_known _ _ (fun t=>S1 P _ ⟨t,m,gs⟩ _) (fun t=>RS P ds os ⟨putT t d (.tup []),m,gs⟩ K)
def T1 (P : Program) (o : Oper) (st : St) (K : St → Prop) : Prop:=Q1 P o.op (St.ev st.t) st.m st.m.length (fun r new=>K ⟨putT st.t o.dst r,st.m ++ new,st.g⟩)
theorem RQ_nil {P : Program} {ds : List (Option Tmp)} {k : Nat} {st : St} {K : St → Prop} : RQ P ds k [] st K = K st:=by cases k <;> rfl
theorem RQ_zero {P : Program} {ds : List (Option Tmp)} {os : List Oper} {st : St} {K : St → Prop} : RQ P ds 0 os st K = RS P ds os st K:=by cases os <;> rfl
theorem RQ_cons {P : Program} {ds : List (Option Tmp)} {k : Nat} {o : Oper} {os : List Oper} {st : St} {K : St → Prop} :
  RQ P ds (k + 1) (o :: os) st K = gO o.guard ds st.t (T1 P o st (fun st'=>RQ P ds k os st' K)) (RQ P ds k os ⟨putT st.t o.dst (.tup []),st.m,st.g⟩ K):=by
 rw [RQ,gv_eq]; rfl
theorem RQ_cons_n {P : Program} {ds : List (Option Tmp)} {k : Nat} {os : List Oper} {t : List V} {m : List Ob} {gs : List V} {K : St → Prop} {d : Option Tmp} {op : Op} {ty : TypeId} {ps : String} {af : Array Edge} :
  RQ P ds (k + 1) (⟨d,op,ty,ps,af,none⟩ :: os) ⟨t,m,gs⟩ K = T1 P ⟨d,op,ty,ps,af,none⟩ ⟨t,m,gs⟩ (fun st'=>RQ P ds k os st' K):=by
 rw [RQ_cons]; rfl
theorem RQ_cons_g {P : Program} {ds : List (Option Tmp)} {k : Nat} {os : List Oper} {t : List V} {m : List Ob} {gs : List V} {K : St → Prop} {d : Option Tmp} {op : Op} {ty : TypeId} {ps : String} {af : Array Edge} {j : Nat} {w : Bool} :
  RQ P ds (k + 1) (⟨d,op,ty,ps,af,some (j,w)⟩ :: os) ⟨t,m,gs⟩ K = oB (nrm (ds.getD j none)) fun d'=>gB (St.ev t (.tmp d')) w (T1 P ⟨d,op,ty,ps,af,some (j,w)⟩ ⟨t.set d' (.bool w),m,gs⟩ (fun st'=>RQ P ds k os st' K)) (RQ P ds k os ⟨putT (gset t d' w) d (.tup []),m,gs⟩ K):=by
 rw [RQ_cons]
 exact gO_known _ _ (fun t=>T1 P _ ⟨t,m,gs⟩ _) (fun t=>RQ P ds k os ⟨putT t d (.tup []),m,gs⟩ K)
def boxAt (m : List Ob) (q : Nat) : Option (List V):=match m[q]? with
 | some (.box _ cs)=>some cs
 | _=>none
def boxLv (m : List Ob) (q : Nat) : Option (List V):=match m[q]? with
 | some (.box true cs)=>some cs
 | _=>none
def arrAt (m : List Ob) (q : Nat) : Option (Nat × List (List V)):=match m[q]? with
 | some (.arr _ sz xs)=>some (sz,xs)
 | _=>none
def arrLv (m : List Ob) (q : Nat) : Option (Nat × List (List V)):=match m[q]? with
 | some (.arr true sz xs)=>some (sz,xs)
 | _=>none
section
variable {m : List Ob} {q : Nat} {lv : Bool} {cs : List V} {ob : Ob} {sz : Nat} {xs : List (List V)}
theorem boxAt_z : boxAt (.box lv cs :: m) 0 = some cs:=nr rfl
theorem boxAt_s : boxAt (ob :: m) (q + 1) = boxAt m q:=by simp [boxAt]
theorem boxLv_z : boxLv (.box true cs :: m) 0 = some cs:=nr rfl
theorem boxLv_s : boxLv (ob :: m) (q + 1) = boxLv m q:=by simp [boxLv]
theorem arrAt_z : arrAt (.arr lv sz xs :: m) 0 = some (sz,xs):=nr rfl
theorem arrAt_s : arrAt (ob :: m) (q + 1) = arrAt m q:=by simp [arrAt]
theorem arrLv_z : arrLv (.arr true sz xs :: m) 0 = some (sz,xs):=nr rfl
theorem arrLv_s : arrLv (ob :: m) (q + 1) = arrLv m q:=by simp [arrLv]
theorem oneV_ar {o off len : Nat} : oneV m (.ar o off len) = (arrAt m o).isSome:=by
 simp only [oneV,arrAt]
 cases m[o]? with
 | none=>rfl
 | some ob=>cases ob <;> rfl
theorem elemsV_arc {o off len cap : Nat} : elemsV m (.arc o off len cap) = (arrAt m o).map fun p=>(p.2.drop off).take len:=by
 simp only [elemsV,arrAt]
 cases m[o]? with
 | none=>rfl
 | some ob=>cases ob <;> rfl
theorem elemsV_ar {o off len : Nat} : elemsV m (.ar o off len) = (arrAt m o).map fun p=>(p.2.drop off).take len:=by
 simp only [elemsV,arrAt]
 cases m[o]? with
 | none=>rfl
 | some ob=>cases ob <;> rfl
end
theorem rdVC_t {sz : Nat} {cs : List V} {K : V → Prop} : rdVC true sz cs K = (sz ≤ cs.length ∧ K (.agg (cs.take sz))):=by simp [rdVC]
theorem rdVC_f {sz : Nat} {cs : List V} {K : V → Prop} : rdVC false sz cs K = oB (nrm cs[0]?) K:=by
 cases cs <;> simp [rdVC,oB,nrm]
def ldX (m : List Ob) (x : V) (k : List V → Prop) : Prop:=match x with
 | .ptr o off=>oB (nrm (boxAt m o)) fun cs=>k (cs.drop off)
 | .eptr o i off=>oB (nrm (arrAt m o)) fun p=>oB (nrm p.2[i]?) fun c=>k (c.drop off)
 | .sptr _ xs i off=>oB (nrm xs[i]?) fun c=>k (c.drop off)
 | .fptr cs off=>k (cs.drop off)
 | _=>False
@[congr] theorem ldX_congr {m m' : List Ob} {x x' : V} {k : List V → Prop} (h1 : m = m') (h2 : x = x') : ldX m x k = ldX m' x' k:=by rw [h1,h2]
theorem oB_get' {α : Type} {xs : List α} {i : Nat} {d : α} {k : α → Prop} : oB (nrm xs[i]?) k = (i < xs.length ∧ k (xs.getD i d)):=by
 unfold nrm
 by_cases h : i < xs.length
 ·simp [oB,h,Zc]
 ·simp [oB,h]
theorem oB_get {α : Type} {xs : List α} {i : Nat} {d : α} {k : α → Prop} : oB xs[i]? k = (i < xs.length ∧ k (xs.getD i d)):=by
 by_cases h : i < xs.length
 ·simp [oB,h,Zc]
 ·simp [oB,h]
theorem ldVC_eq {P : Program} {t : TypeId} {m : List Ob} {x : V} {K : V → Prop} : ldVC P t m x K = oP (nrm (lay P t)) fun sz ag=>ldX m x fun cs=>rdVC ag sz cs K:=by
 unfold ldVC
 cases lay P t with
 | none=>rfl
 | some p =>
  obtain ⟨sz,ag⟩:=p
  simp only [nrm,oP_some]
  cases x <;> simp only [ldX]
  ·rw [oB_get' (d:=[])]
  ·simp only [boxAt]
   rename_i o off
   cases m[o]? with
   | none=>rfl
   | some ob=>cases ob <;> rfl
  ·simp only [arrAt]
   rename_i o i off
   cases m[o]? with
   | none=>rfl
   | some ob =>
    cases ob <;> simp only [nrm,oB_some,oB_none]
    rw [oB_get (d:=[])]
theorem ldX_ptr {m : List Ob} {o off : Nat} {k : List V → Prop} : ldX m (.ptr o off) k = oB (nrm (boxAt m o)) fun cs=>k (cs.drop off):=nr rfl
theorem ldX_eptr {m : List Ob} {o i off : Nat} {k : List V → Prop} : ldX m (.eptr o i off) k = oB (nrm (arrAt m o)) fun p=>oB (nrm p.2[i]?) fun c=>k (c.drop off):=nr rfl
theorem ldX_sptr {m : List Ob} {sz : Nat} {xs : List (List V)} {i off : Nat} {k : List V → Prop} : ldX m (.sptr sz xs i off) k = oB (nrm xs[i]?) fun c=>k (c.drop off):=nr rfl
theorem ldX_fptr {m : List Ob} {cs : List V} {off : Nat} {k : List V → Prop} : ldX m (.fptr cs off) k = k (cs.drop off):=nr rfl
def stX (m : List Ob) (x : V) (sz : Nat) (ys : List V) (K : List Ob → Prop) : Prop:=match x with
 | .ptr q off=>oB (nrm (boxLv m q)) fun cs=>ys.all (oneV m) = true ∧ ys.length = sz ∧ off + ys.length ≤ cs.length ∧ K (m.set q (.box true (over cs off ys)))
 | .eptr q i off=>oB (nrm (arrLv m q)) fun p=>i < p.2.length ∧ ys.all (oneV m) = true ∧ ys.length = sz ∧ off + ys.length ≤ p.1 ∧ K (m.set q (.arr true p.1 (p.2.set i (over (p.2.getD i []) off ys))))
 | _=>False
theorem stX_ptr {m : List Ob} {q off sz : Nat} {ys : List V} {K : List Ob → Prop} : stX m (.ptr q off) sz ys K = oB (nrm (boxLv m q)) fun cs=>ys.all (oneV m) = true ∧ ys.length = sz ∧ off + ys.length ≤ cs.length ∧ K (m.set q (.box true (over cs off ys))):=nr rfl
theorem stX_eptr {m : List Ob} {q i off sz : Nat} {ys : List V} {K : List Ob → Prop} : stX m (.eptr q i off) sz ys K = oB (nrm (arrLv m q)) fun p=>i < p.2.length ∧ ys.all (oneV m) = true ∧ ys.length = sz ∧ off + ys.length ≤ p.1 ∧ K (m.set q (.arr true p.1 (p.2.set i (over (p.2.getD i []) off ys)))):=nr rfl
@[congr] theorem storeVC_congr {P : Program} {t : TypeId} {m m' : List Ob} {x x' y y' : V} {K : List Ob → Prop} (h1 : m = m') (h2 : x = x') (h3 : y = y') : storeVC P t m x y K = storeVC P t m' x' y' K:=by rw [h1,h2,h3]
theorem over_z {cs ys : List V} : over cs 0 ys = ys ++ cs.drop ys.length:=by simp [over]
theorem over_s {c : V} {cs ys : List V} {off : Nat} : over (c :: cs) (off + 1) ys = c :: over cs off ys:=by
 simp [over,Nat.succ_add]
section
variable {P : Program} {st : St} {t : List V} {m : List Ob} {gs : List V} {K : St → Prop} {d : Option Tmp} {ty : TypeId} {ps : String} {af : Array Edge} {g : Option (Nat × Bool)}
theorem S1_move {x : Operand} : S1 P ⟨d,.move x,ty,ps,af,g⟩ ⟨t,m,gs⟩ K = K ⟨putT t d (St.ev t x),m,gs⟩:=by simp [S1,Q1]
theorem S1_assign {x : Operand} : S1 P ⟨d,.assign x,ty,ps,af,g⟩ ⟨t,m,gs⟩ K = K ⟨putT t d (St.ev t x),m,gs⟩:=by simp [S1,Q1]
def pkX (c a b : V) (K : V → Prop) : Prop:=match c with
 | .bool t=>K (if t then a else b)
 | _=>False
@[congr] theorem pkX_congr {c c' a a' b b' : V} {K : V → Prop} (h1 : c = c') (h2 : a = a') (h3 : b = b') : pkX c a b K = pkX c' a' b' K:=by rw [h1,h2,h3]
theorem pkX_t {a b : V} {K : V → Prop} : pkX (.bool true) a b K = K a:=nr rfl
theorem pkX_f {a b : V} {K : V → Prop} : pkX (.bool false) a b K = K b:=nr rfl
theorem pkX_b {x a b : Bool} {K : V → Prop} : pkX (.bool x) (.bool a) (.bool b) K = K (.bool (if x then a else b)):=by cases x <;> rfl
theorem S1_pick {x y z : Operand} : S1 P ⟨d,.pick x y z,ty,ps,af,g⟩ ⟨t,m,gs⟩ K = pkX (St.ev t x) (St.ev t y) (St.ev t z) fun r=>K ⟨putT t d r,m,gs⟩:=by
 simp only [S1,Q1,pkX]
 cases St.ev t x <;> simp
theorem S1_alloc {e : TypeId} : S1 P ⟨d,.alloc e,ty,ps,af,g⟩ ⟨t,m,gs⟩ K = oB (nrm (zer P e)) fun cs=>K ⟨putT t d (.ptr m.length 0),m ++ [.box true cs],gs⟩:=by
 simp only [S1,Q1]
 cases zer P e <;> rfl
def bxX (m : List Ob) (x : V) (K : List V → Prop) : Prop:=oB (nrm (cellsV m x)) K
@[congr] theorem bxX_congr {m m' : List Ob} {x x' : V} {K : List V → Prop} (h1 : m = m') (h2 : x = x') : bxX m x K = bxX m' x' K:=by rw [h1,h2]
theorem bxX_int {m : List Ob} {k : IntKind} {n : Int} {K : List V → Prop} : bxX m (.int k n) K = K [.int k n]:=nr rfl
theorem bxX_str {m : List Ob} {b : ByteArray} {K : List V → Prop} : bxX m (.str b) K = K [.str b]:=nr rfl
theorem bxX_sl {m : List Ob} {sz : Nat} {xs : List (List V)} {K : List V → Prop} : bxX m (.sl sz xs) K = K [.sl sz xs]:=nr rfl
theorem bxX_agg {m : List Ob} {cs : List V} {K : List V → Prop} : bxX m (.agg cs) K = K cs:=nr rfl
theorem bxX_ar {m : List Ob} {q off len : Nat} {K : List V → Prop} : bxX m (.ar q off len) K = ((arrAt m q).isSome = true ∧ K [.ar q off len]):=by
 simp only [bxX,cellsV,oneV_ar,nrm]
 cases arrAt m q <;> simp [oB]
theorem S1_box {e : TypeId} {x : Operand} : S1 P ⟨d,.box e x,ty,ps,af,g⟩ ⟨t,m,gs⟩ K = bxX m (St.ev t x) fun cs=>K ⟨putT t d (.ptr m.length 0),m ++ [.box true cs],gs⟩:=by
 simp only [S1,Q1,boxVC,bxX]
 cases h : St.ev t x <;> simp only [cellsV,oB,nrm] <;> first | rfl | (cases oneV m _ <;> simp)
theorem storeVC_eq {t : TypeId} {m : List Ob} {x y : V} {K : List Ob → Prop} : storeVC P t m x y K = oP (nrm (lay P t)) fun sz _=>bxX m y fun ys=>stX m x sz ys K:=by
 unfold storeVC
 cases lay P t with
 | none=>rfl
 | some p =>
  obtain ⟨sz,ag⟩:=p
  simp only [nrm,oP_some,bxX]
  cases cellsV m y with
  | none=>rfl
  | some ys =>
   simp only [nrm,oB_some]
   cases x <;> simp only [stX]
   ·simp only [boxLv]
    rename_i q off
    cases m[q]? with
    | none=>rfl
    | some ob=>cases ob <;> first | rfl | (rename_i lv cs; cases lv <;> rfl)
   ·simp only [arrLv]
    rename_i q i off
    cases m[q]? with
    | none=>rfl
    | some ob=>cases ob <;> first | rfl | (rename_i lv sz' xs; cases lv <;> rfl)
theorem S1_load {e : TypeId} {x : Operand} : S1 P ⟨d,.load e x,ty,ps,af,g⟩ ⟨t,m,gs⟩ K = ldVC P e m (St.ev t x) fun r=>K ⟨putT t d r,m,gs⟩:=by simp [S1,Q1]
theorem S1_store {e : TypeId} {x y : Operand} : S1 P ⟨d,.store e x y,ty,ps,af,g⟩ ⟨t,m,gs⟩ K = storeVC P e m (St.ev t x) (St.ev t y) fun m'=>K ⟨putT t d .junk,m',gs⟩:=by simp [S1]
def nlX (m : List Ob) (x : V) (K : Prop) : Prop:=x.notNil = true ∧ oneV m x = true ∧ K
theorem S1_nilCheck {x : Operand} : S1 P ⟨d,.nilCheck x,ty,ps,af,g⟩ ⟨t,m,gs⟩ K = ((St.ev t x).notNil = true ∧ oneV m (St.ev t x) = true ∧ K ⟨putT t d (St.ev t x),m,gs⟩):=by simp [S1,Q1]
@[congr] theorem bnX_congr {P : Program} {q : Bool} {op : BinOp} {e : TypeId} {m m' : List Ob} {x x' y y' : V} {K : V → Prop} (h0 : m = m') (h1 : x = x') (h2 : y = y') : bnX P q op e m x y K = bnX P q op e m' x' y' K:=by rw [h0,h1,h2]
section
variable {q : Bool} {m : List Ob} {e : TypeId} {k : IntKind} {a b : Int} {K : V → Prop}
theorem bnX_add : bnX P q .add e m (.int k a) (.int k b) K = K (.int k (k.wrap (a + b))):=by simp [bnX,binVC,binV,intV]
theorem bnX_sub : bnX P q .sub e m (.int k a) (.int k b) K = K (.int k (k.wrap (a - b))):=by simp [bnX,binVC,binV,intV]
theorem bnX_eql : bnX P q .eql e m (.int k a) (.int k b) K = K (.bool (a == b)):=by simp [bnX,binVC,binV,intV]
theorem bnX_neq : bnX P q .neq e m (.int k a) (.int k b) K = K (.bool (a != b)):=by simp [bnX,binVC,binV,intV]
theorem bnX_lss : bnX P q .lss e m (.int k a) (.int k b) K = K (.bool (decide (a < b))):=by simp [bnX,binVC,binV,intV]
theorem bnX_leq : bnX P q .leq e m (.int k a) (.int k b) K = K (.bool (decide (a ≤ b))):=by simp [bnX,binVC,binV,intV]
theorem bnX_gtr : bnX P q .gtr e m (.int k a) (.int k b) K = K (.bool (decide (a > b))):=by simp [bnX,binVC,binV,intV]
theorem bnX_geq : bnX P q .geq e m (.int k a) (.int k b) K = K (.bool (decide (a ≥ b))):=by simp [bnX,binVC,binV,intV]
theorem bnX_quo {K : V → Prop} : bnX P q .quo e m (.int k a) (.int k b) K = (b ≠ 0 ∧ K (.int k (k.wrap (a.tdiv b)))):=by
 simp only [bnX,binVC,binV,intV,if_true]
 by_cases h : b = 0 <;> simp [h,boolV,eqAgg]
theorem bnX_rem : bnX P q .rem e m (.int k a) (.int k b) K = (b ≠ 0 ∧ K (.int k (a.tmod b))):=by
 simp only [bnX,binVC,binV,intV,if_true]
 by_cases h : b = 0 <;> simp [h,boolV,eqAgg]
theorem bnX_shr {k' : IntKind} : bnX P q .shr e m (.int k a) (.int k' b) K = (0 ≤ b ∧ K (.int k (a.fdiv (2 ^ min b.toNat k.bits)))):=by
 simp only [bnX,binVC,binV]
 by_cases h : b < 0
 ·simp [h,boolV,eqAgg]; intro h'; omega
 ·simp [h]; omega
theorem bnX_sadd {a b : ByteArray} : bnX P q .add e m (.str a) (.str b) K = (a.size + b.size ≤ 2 ^ 62 ∧ K (.str (a ++ b))):=by
 simp only [bnX,binVC,binV,strV]
 by_cases h : a.size + b.size ≤ 2 ^ 62
 ·rw [if_pos h]; simp [h]
 ·rw [if_neg h]; simp [h,boolV,eqAgg]
theorem bnX_seql {a b : ByteArray} : bnX P q .eql e m (.str a) (.str b) K = K (.bool (a.toList == b.toList)):=by simp [bnX,binVC,binV,strV]
theorem bnX_sneq {a b : ByteArray} : bnX P q .neq e m (.str a) (.str b) K = K (.bool (!(a.toList == b.toList))):=by simp [bnX,binVC,binV,strV]
theorem bnX_beql {a b : Bool} : bnX P q .eql e m (.bool a) (.bool b) K = (isBoolT P e = true ∧ K (.bool (a == b))):=by simp [bnX,binVC,binV,boolV]
end
class KN where
 k : V → Prop
def nilY (op : BinOp) (xs : List (List V)) [kn : KN] : Prop:=∀ b,(b = true → xs = []) → nilop op b kn.k
theorem nilY.eql {xs : List (List V)} {K : V → Prop} (h1 : xs = [] → K (.bool true)) (h2 : K (.bool false)) : @nilY .eql xs ⟨K⟩:=by
 intro b hb
 cases b with
 | false=>exact h2
 | true=>exact h1 (hb rfl)
theorem bnX_nilsl {op : BinOp} {e : TypeId} {m : List Ob} {sz : Nat} {xs : List (List V)} {K : V → Prop} : bnX P false op e m (.sl sz xs) .nil K = oB (nrm (elt P e)) fun _=>@nilY op xs ⟨K⟩:=by
 simp only [bnX,nilS,nrm]
 cases elt P e with
 | none=>rfl
 | some u =>
  simp only [oB_some,elemsV,nilY]
  apply propext
  constructor
  ·rintro ⟨ys,h1,h2⟩
   simp only [Option.some.injEq] at h1; subst h1
   exact h2
  ·intro h; exact ⟨xs,rfl,h⟩
theorem S1_binOp {op : BinOp} {e u : TypeId} {x y : Operand} : S1 P ⟨d,.binOp op e x y u,ty,ps,af,g⟩ ⟨t,m,gs⟩ K = bnX P false op e m (St.ev t x) (St.ev t y) fun r=>K ⟨putT t d r,m,gs⟩:=by simp [S1]
theorem T1_binOp' {op : BinOp} {e u : TypeId} {x y : Operand} : T1 P ⟨d,.binOp op e x y u,ty,ps,af,g⟩ ⟨t,m,gs⟩ K = bnX P true op e m (St.ev t x) (St.ev t y) fun r=>K ⟨putT t d r,m,gs⟩:=by
 simp only [T1,Q1,bnX,Zt]
 cases St.ev t y <;> rfl
@[congr] theorem unVC_congr {op : UnOp} {x x' : V} {K : V → Prop} (h1 : x = x') : unVC op x K = unVC op x' K:=by rw [h1]
theorem unVC_not {b : Bool} {K : V → Prop} : unVC .not (.bool b) K = K (.bool (!b)):=nr rfl
theorem S1_unOp {op : UnOp} {e : TypeId} {x : Operand} : S1 P ⟨d,.unOp op e x,ty,ps,af,g⟩ ⟨t,m,gs⟩ K = unVC op (St.ev t x) fun r=>K ⟨putT t d r,m,gs⟩:=by simp [S1,Q1]
theorem convVC_int {s e : TypeId} {k : IntKind} {n : Int} {K : V → Prop} : convVC P s e m (.int k n) K = oB (nrm (intT P e)) fun k=>hasT P s = true ∧ K (.int k (k.wrap n)):=by
 simp only [convVC]
 cases intT P e <;> rfl
def bytY (xs : List (List V)) [ko : KO V] : Prop:=∃ ns : List Int,xs = ns.map (fun n=>[.int .u8 n]) ∧ ko.k (.str (strOf ns))
@[congr] theorem bytY_congr {xs xs' : List (List V)} [ko : KO V] (h : xs = xs') : bytY xs = bytY xs':=by rw [h]
theorem bytY.mk {xs : List (List V)} {K : V → Prop} (ns : List Int) (h : xs = ns.map (fun n=>[.int .u8 n])) (k : K (.str (strOf ns))) : @bytY xs ⟨K⟩:=⟨ns,h,k⟩
theorem convVC_ar {s e : TypeId} {q off len : Nat} {K : V → Prop} : convVC P s e m (.ar q off len) K = oB (nrm (elt P s)) fun u=>oB (nrm (intT P u)) fun k=>oB (nrm (arrAt m q)) fun a=>k = .u8 ∧ isStrT P e = true ∧ @bytY ((a.2.drop off).take len) ⟨K⟩:=by
 simp only [convVC,nrm,bytY,elemsV_ar]
 cases elt P s with
 | none=>simp [oB]
 | some u =>
  simp only [oB_some,Option.some.injEq,exists_and_left,exists_eq_left']
  cases intT P u with
  | none=>simp [oB]
  | some k =>
   simp only [oB_some,Option.some.injEq]
   cases arrAt m q with
   | none=>simp [oB]
   | some a=>simp only [oB_some,Zf,Option.some.injEq]
@[congr] theorem cnvVC_congr {s e : TypeId} {m m' : List Ob} {b b' : Nat} {x x' : V} {K : V → List Ob → Prop} (h0 : m = m') (h2 : b = b') (h1 : x = x') : cnvVC P s e m b x K = cnvVC P s e m' b' x' K:=by rw [h0,h1,h2]
theorem cnvVC_int {s e : TypeId} {b : Nat} {k : IntKind} {n : Int} {K : V → List Ob → Prop} : cnvVC P s e m b (.int k n) K = convVC P s e m (.int k n) (fun r=>K r []):=nr rfl
theorem cnvVC_ar {s e : TypeId} {b q off len : Nat} {K : V → List Ob → Prop} : cnvVC P s e m b (.ar q off len) K = convVC P s e m (.ar q off len) (fun r=>K r []):=nr rfl
theorem S1_convert {s e : TypeId} {x : Operand} : S1 P ⟨d,.convert s e x,ty,ps,af,g⟩ ⟨t,m,gs⟩ K = cnvVC P s e m m.length (St.ev t x) fun r new=>K ⟨putT t d r,m ++ new,gs⟩:=by simp [S1,Q1]
theorem S1_makeFunc {f : FuncId} {fs cs : Array Operand} : S1 P ⟨d,.makeFunc (.func f) fs cs,ty,ps,af,g⟩ ⟨t,m,gs⟩ K = K ⟨putT t d (.fn f (fs.toList.map (St.ev t)) (cs.toList.map (St.ev t))),m,gs⟩:=by simp [S1,Q1,mkfVC]
@[congr] theorem mksVC_congr {e : TypeId} {b b' : Nat} {x x' y y' : V} {K : V → List Ob → Prop} (h0 : b = b') (h1 : x = x') (h2 : y = y') : mksVC P e b x y K = mksVC P e b' x' y' K:=by rw [h0,h1,h2]
theorem mksVC_eq {e : TypeId} {b : Nat} {k k' : IntKind} {n n' : Int} {K : V → List Ob → Prop} : mksVC P e b (.int k n) (.int k' n') K =
  oB (nrm (elt P e)) fun u=>oB (nrm (lay P u)) fun p=>oB (nrm (zer P u)) fun zs=>(n' = n ∧ 0 < p.1 ∧ zs.length = p.1 ∧ 0 ≤ n ∧ n * P.bytesOf u ≤ 2 ^ 47 ∧ n ≤ 2 ^ 47 ∧ K (.ar b 0 n.toNat) [.arr true p.1 (Za n.toNat zs)]):=by
 unfold mksVC
 cases elt P e with
 | none=>rfl
 | some u =>
  simp only [nrm,oB_some]
  cases lay P u with
  | none=>rfl
  | some p=>cases zer P u <;> rfl
theorem S1_makeSlice {e : TypeId} {x y : Operand} : S1 P ⟨d,.makeSlice e x y,ty,ps,af,g⟩ ⟨t,m,gs⟩ K = mksVC P e m.length (St.ev t x) (St.ev t y) fun r new=>K ⟨putT t d r,m ++ new,gs⟩:=by simp [S1,Q1]
@[congr] theorem faddrVC_congr {s f : Nat} {m m' : List Ob} {x x' : V} {K : V → Prop} (h0 : m = m') (h1 : x = x') : faddrVC P s f m x K = faddrVC P s f m' x' K:=by rw [h0,h1]
theorem faddrVC_eq {s f : Nat} {x : V} {K : V → Prop} : faddrVC P s f m x K = oB (nrm (fld P s f)) fun p=>oB (nrm (x.step p.1)) fun r=>0 < p.2.1 ∧ oneV m x = true ∧ K r:=by
 unfold faddrVC
 cases fld P s f with
 | none=>rfl
 | some p =>
  simp only [nrm,oB_some]
  cases x.step p.1 <;> rfl
theorem S1_fieldAddr {s f : Nat} {x : Operand} : S1 P ⟨d,.fieldAddr s x f,ty,ps,af,g⟩ ⟨t,m,gs⟩ K = faddrVC P s f m (St.ev t x) fun r=>K ⟨putT t d r,m,gs⟩:=by simp [S1,Q1]
@[congr] theorem iaddrVC_congr {e : TypeId} {m m' : List Ob} {x x' y y' : V} {K : V → Prop} (h0 : m = m') (h1 : x = x') (h2 : y = y') : iaddrVC P e m x y K = iaddrVC P e m' x' y' K:=by rw [h0,h1,h2]
theorem iaddrVC_sl {e : TypeId} {sz : Nat} {xs : List (List V)} {k : IntKind} {i : Int} {K : V → Prop} : iaddrVC P e m (.sl sz xs) (.int k i) K = oB (nrm (elt P e)) fun u=>oB (nrm (lay P u)) fun p=>sz = p.1 ∧ 0 ≤ i ∧ i < xs.length ∧ K (.sptr p.1 xs i.toNat 0):=by
 unfold iaddrVC
 cases elt P e with
 | none=>rfl
 | some u =>
  simp only [nrm,oB_some]
  cases lay P u <;> rfl
theorem iaddrVC_ar {e : TypeId} {q off len : Nat} {k : IntKind} {i : Int} {K : V → Prop} : iaddrVC P e m (.ar q off len) (.int k i) K = oB (nrm (elt P e)) fun u=>oB (nrm (lay P u)) fun p=>oB (nrm (arrAt m q)) fun a=>a.1 = p.1 ∧ 0 ≤ i ∧ i < len ∧ K (.eptr q (off + i.toNat) 0):=by
 unfold iaddrVC arrAt
 cases elt P e with
 | none=>rfl
 | some u =>
  simp only [nrm,oB_some]
  cases lay P u with
  | none=>rfl
  | some p =>
   simp only [nrm,oB_some]
   cases m[q]? with
   | none=>rfl
   | some ob=>cases ob <;> rfl
theorem S1_indexAddr {e : TypeId} {x y : Operand} : S1 P ⟨d,.indexAddr e x y,ty,ps,af,g⟩ ⟨t,m,gs⟩ K = iaddrVC P e m (St.ev t x) (St.ev t y) fun r=>K ⟨putT t d r,m,gs⟩:=by simp [S1,Q1]
@[congr] theorem extrVC_congr {i : Nat} {x x' : V} {K : V → Prop} (h1 : x = x') : extrVC x i K = extrVC x' i K:=by rw [h1]
theorem extrVC_eq {i : Nat} {vs : List V} {K : V → Prop} : extrVC (.tup vs) i K = oB (nrm vs[i]?) K:=by
 rw [oB_get' (d:=.junk)]; rfl
def lkY (P : Program) (t : TypeId) (m : List Ob) (x y : V) (ok : Bool) [kb : KO V] : Prop:=lkVC P t m x y ok kb.k
def muY (P : Program) (t : TypeId) (m : List Ob) (x y z : V) [kb : KO (List Ob)] : Prop:=muVC P t m x y z kb.k
def meY (P : Program) (t : TypeId) (m : List Ob) (x y : V) [kb : KO (V × List Ob)] : Prop:=meVC P t m x y fun r m'=>kb.k (r,m')
def esY (m : List Ob) (x y z : V) [kb : KO (List Ob)] : Prop:=esVC m x y z kb.k
theorem S1_extract {i : Nat} {x : Operand} : S1 P ⟨d,.extract x i,ty,ps,af,g⟩ ⟨t,m,gs⟩ K = extrVC (St.ev t x) i fun r=>K ⟨putT t d r,m,gs⟩:=by simp [S1,Q1]
@[congr] theorem lenVC_congr {e : TypeId} {m m' : List Ob} {x x' : V} {K : V → Prop} (h0 : m = m') (h1 : x = x') : lenVC P e m x K = lenVC P e m' x' K:=by rw [h0,h1]
theorem lenVC_str {e : TypeId} {s : ByteArray} {K : V → Prop} : lenVC P e m (.str s) K = (isStrT P e = true ∧ K (.int .i64 s.size)):=nr rfl
theorem lenVC_sl {e : TypeId} {sz : Nat} {xs : List (List V)} {K : V → Prop} : lenVC P e m (.sl sz xs) K = oB (nrm (elt P e)) fun _=>K (.int .i64 xs.length):=by
 simp only [lenVC]
 cases elt P e <;> simp [oB,nrm]
theorem lenVC_ar {e : TypeId} {q off len : Nat} {K : V → Prop} : lenVC P e m (.ar q off len) K = oB (nrm (elt P e)) fun _=>oB (nrm (arrAt m q)) fun _=>K (.int .i64 len):=by
 simp only [lenVC,arrAt]
 cases elt P e with
 | none=>cases m[q]? with
   | none=>rfl
   | some ob=>cases ob <;> simp [oB,nrm]
 | some u =>
  cases m[q]? with
  | none=>rfl
  | some ob=>cases ob <;> simp [oB,nrm]
theorem lenVC_arc {e : TypeId} {q off len cap : Nat} {K : V → Prop} : lenVC P e m (.arc q off len cap) K = oB (nrm (elt P e)) fun _=>oB (nrm (arrAt m q)) fun _=>K (.int .i64 len):=by
 simp only [lenVC,arrAt]
 cases elt P e with
 | none=>cases m[q]? with
   | none=>rfl
   | some ob=>cases ob <;> simp [oB,nrm]
 | some u =>
  cases m[q]? with
  | none=>rfl
  | some ob=>cases ob <;> simp [oB,nrm]
@[congr] theorem capVC_congr {e : TypeId} {m m' : List Ob} {x x' : V} {K : V → Prop} (h0 : m = m') (h1 : x = x') : capVC P e m x K = capVC P e m' x' K:=by rw [h0,h1]
theorem capVC_arc {e : TypeId} {q off len cap : Nat} {K : V → Prop} : capVC P e m (.arc q off len cap) K = oB (nrm (elt P e)) fun _=>oB (nrm (arrAt m q)) fun _=>K (.int .i64 cap):=by
 simp only [capVC,arrAt]
 cases elt P e with
 | none=>cases m[q]? with
   | none=>rfl
   | some ob=>cases ob <;> simp [oB,nrm]
 | some u =>
  cases m[q]? with
  | none=>rfl
  | some ob=>cases ob <;> simp [oB,nrm]
theorem S1_cap {x : Operand} {e : TypeId} : S1 P ⟨d,.call { callee:=.builtin .cap,args:=#[x],argTypes:=#[e] },ty,ps,af,g⟩ ⟨t,m,gs⟩ K = capVC P e m (St.ev t x) fun r=>K ⟨putT t d r,m,gs⟩:=by
 simp [S1,cVC,biVC]
theorem S1_len {x : Operand} {e : TypeId} : S1 P ⟨d,.call { callee:=.builtin .len,args:=#[x],argTypes:=#[e] },ty,ps,af,g⟩ ⟨t,m,gs⟩ K = lenVC P e m (St.ev t x) fun r=>K ⟨putT t d r,m,gs⟩:=by
 simp [S1,cVC,biVC]
def mmX (gt : Bool) (x y : V) (K : V → Prop) : Prop:=oB (nrm (mm gt x y)) K
@[congr] theorem mmX_congr {gt : Bool} {x x' y y' : V} {K : V → Prop} (h1 : x = x') (h2 : y = y') : mmX gt x y K = mmX gt x' y' K:=by rw [h1,h2]
theorem mmX_eq {gt : Bool} {x y : V} {K : V → Prop} : mmX gt x y K = oB (nrm (mm gt x y)) K:=nr rfl
theorem S1_max {x y : Operand} {ts : Array TypeId} : S1 P ⟨d,.call { callee:=.builtin .max,args:=#[x,y],argTypes:=ts },ty,ps,af,g⟩ ⟨t,m,gs⟩ K = mmX true (St.ev t x) (St.ev t y) fun r=>K ⟨putT t d r,m,gs⟩:=by
 simp only [S1,cVC,biVC,mmX,List.map_cons,List.map_nil]
 cases mm true (St.ev t x) (St.ev t y) <;> simp [oB,nrm]
@[congr] theorem callVC_congr {f : FuncId} {xs xs' : List V} {m m' : List Ob} {b b' : Nat} {K : V → List Ob → Prop} (h1 : xs = xs') (h0 : m = m') (h2 : b = b') : callVC P f xs m b K = callVC P f xs' m' b' K:=by rw [h1,h0,h2]
def clX (P : Program) (x : V) (xs : List V) (m : List Ob) (K KL : V → List Ob → Prop) : Prop:=match x with
 | .fn f fs cs=>callVC P f (fs ++ xs ++ cs) m m.length K ∨ (lcVC P f (fs ++ xs ++ cs) m KL ∨ ovVC P f fs cs xs m KL)
 | _=>False
theorem clX_fn {f : FuncId} {fs cs xs : List V} {K KL : V → List Ob → Prop} : clX P (.fn f fs cs) xs m K KL = (callVC P f (fs ++ xs ++ cs) m m.length K ∨ (lcVC P f (fs ++ xs ++ cs) m KL ∨ ovVC P f fs cs xs m KL)):=nr rfl
class KB where
 k : V → List Ob → Prop
 l : V → List Ob → Prop
def clY (P : Program) (x : V) (xs : List V) (m : List Ob) [kb : KB] : Prop:=clX P x xs m kb.k kb.l
@[congr] theorem clY_congr {x x' : V} {xs xs' : List V} {m m' : List Ob} [kb : KB] (h0 : x = x') (h1 : xs = xs') (h2 : m = m') : clY P x xs m = clY P x' xs' m':=by rw [h0,h1,h2]
theorem S1_call {x : Operand} {as : Array Operand} {ts : Array TypeId} : S1 P ⟨d,.call { callee:=.value x,args:=as,argTypes:=ts },ty,ps,af,g⟩ ⟨t,m,gs⟩ K = @clY P (St.ev t x) (as.toList.map (St.ev t)) m ⟨fun r new=>K ⟨putT t d r,m ++ new,gs⟩,fun r m'=>K ⟨putT t d r,m',gs⟩⟩:=by
 simp only [S1,cVC,lcV,clY,clX]
 cases St.ev t x <;> first | rfl | simp
theorem T1_call' {x : Operand} {as : Array Operand} {ts : Array TypeId} : T1 P ⟨d,.call { callee:=.value x,args:=as,argTypes:=ts },ty,ps,af,g⟩ ⟨t,m,gs⟩ K = @clY P (St.ev t x) (as.toList.map (St.ev t)) m ⟨fun r new=>K ⟨putT t d r,m ++ new,gs⟩,fun _ _=>False⟩:=by
 simp only [T1,Q1,cVC,clY,clX]
 cases St.ev t x <;> first | rfl | simp [lcVC,ovVC]
@[congr] theorem appVC_congr {e e' : TypeId} {m m' : List Ob} {x x' y y' : V} {K : V → List Ob → Prop} (h0 : m = m') (h1 : x = x') (h2 : y = y') : appVC P e e' m x y K = appVC P e e' m' x' y' K:=by rw [h0,h1,h2]
theorem appVC_ar {e e' : TypeId} {q n : Nat} {y : V} {K : V → List Ob → Prop} : appVC P e e' m (.ar q 0 n) y K =
  oB (nrm (elt P e)) fun u=>oB (nrm (lay P u)) fun p=>oB (nrm (zer P u)) fun zs=>oB (nrm (srcV m p.1 y)) fun ys=>oB (nrm (arrLv m q)) fun a =>
   0 < p.1 ∧ zs.length = p.1 ∧ seqT P e' = true ∧ (∀ z ∈ ys,z.length = p.1) ∧ (∀ z ∈ ys.flatten,oneV m z = true) ∧ a.1 = p.1 ∧ a.2.length = n ∧ (n + ys.length) * P.bytesOf u ≤ 2 ^ 47 ∧ n + ys.length ≤ 2 ^ 62 ∧
    K (.ar m.length 0 (n + ys.length)) (m.set q .dead ++ [.arr true p.1 (a.2 ++ ys)]):=by
 unfold appVC arrLv
 cases elt P e with
 | none=>rfl
 | some u =>
  simp only [nrm,oB_some]
  cases lay P u with
  | none=>rfl
  | some p =>
   obtain ⟨sz,ag⟩:=p
   cases zer P u with
   | none=>rfl
   | some zs =>
    simp only [nrm,oB_some]
    cases srcV m sz y with
    | none=>rfl
    | some ys =>
     simp only [nrm,oB_some]
     cases m[q]? with
     | none=>simp [oB,nrm]
     | some ob=>cases ob <;> first | (simp [oB,nrm]; done) | (rename_i lv a b; cases lv <;> simp [oB,nrm])
theorem appVC_arcS {e e' : TypeId} {q off len cap q' off' len' cap' : Nat} {K : V → List Ob → Prop} : appVC P e e' m (.arc q off len cap) (.arc q' off' len' cap') K =
  oB (nrm (elt P e)) fun u=>oB (nrm (lay P u)) fun p=>oB (nrm (zer P u)) fun zs=>oB (nrm (arrAt m q')) fun b=>oB (nrm (arrLv m q)) fun a =>
   0 < p.1 ∧ zs.length = p.1 ∧ seqT P e' = true ∧ (∀ z ∈ (b.2.drop off').take len',z.length = p.1) ∧ (∀ z ∈ ((b.2.drop off').take len').flatten,oneV m z = true) ∧ a.1 = p.1 ∧ len + ((b.2.drop off').take len').length ≤ cap ∧ off + len + ((b.2.drop off').take len').length ≤ a.2.length ∧
    K (.arc q off (len + ((b.2.drop off').take len').length) cap) (m.set q (.arr true p.1 (a.2.take (off + len) ++ (b.2.drop off').take len' ++ a.2.drop (off + len + ((b.2.drop off').take len').length)))):=by
 unfold appVC arrLv
 cases elt P e with
 | none=>rfl
 | some u =>
  simp only [nrm,oB_some]
  cases lay P u with
  | none=>rfl
  | some p =>
   obtain ⟨sz,ag⟩:=p
   cases zer P u with
   | none=>rfl
   | some zs =>
    simp only [nrm,oB_some,srcV,elemsV_arc]
    cases arrAt m q' with
    | none=>rfl
    | some b =>
     simp only [nrm,oB_some,Zf]
     cases m[q]? with
     | none=>simp [oB,nrm]
     | some ob=>cases ob <;> first | (simp [oB,nrm]; done) | (rename_i lv a b; cases lv <;> simp [oB,nrm])
theorem appVC_arcI {e e' : TypeId} {q off len cap : Nat} {ik : IntKind} {n : Int} {K : V → List Ob → Prop} : appVC P e e' m (.arc q off len cap) (.int ik n) K =
  oB (nrm (elt P e)) fun u=>oB (nrm (lay P u)) fun p=>oB (nrm (zer P u)) fun zs=>oB (nrm (arrLv m q)) fun a=>oB (nrm (intT P e')) fun _ =>
   a.1 = p.1 ∧ 0 < p.1 ∧ zs.length = p.1 ∧ 0 < n ∧ cap < len + n.toNat ∧ (len + n.toNat) * P.bytesOf u ≤ 2 ^ 47 ∧ len + n.toNat ≤ 2 ^ 62 ∧ K (.ar m.length 0 (len + n.toNat)) (m ++ [.arr true p.1 ((a.2.drop off).take len ++ Za n.toNat zs)]):=by
 unfold appVC arrLv
 cases elt P e with
 | none=>rfl
 | some u =>
  simp only [nrm,oB_some]
  cases lay P u with
  | none=>rfl
  | some p =>
   obtain ⟨sz,ag⟩:=p
   cases zer P u with
   | none=>rfl
   | some zs =>
    simp only [nrm,oB_some,srcV,elemsV]
    cases m[q]? with
    | none=>simp [oB]
    | some ob=>cases ob <;> first | (simp [oB,nrm]; done) | (rename_i lv a b; cases lv <;> cases intT P e' <;> simp [oB,nrm])
theorem T1_bsS {e : TypeId} {n : Nat} {qs : Array (Nat × Operand)} : T1 P ⟨d,.buildSlice e (n + 1) qs,ty,ps,af,g⟩ ⟨t,m,gs⟩ K = S1 P ⟨d,.buildSlice e (n + 1) qs,ty,ps,af,g⟩ ⟨t,m,gs⟩ K:=by
 simp only [T1,S1,Q1,bslVC]
@[congr] theorem clrVC_congr {e : TypeId} {m m' : List Ob} {x x' : V} {K : List Ob → Prop} (h0 : m = m') (h1 : x = x') : clrVC P e m x K = clrVC P e m' x' K:=by rw [h0,h1]
theorem clrVC_ar {e : TypeId} {q off len : Nat} {K : List Ob → Prop} : clrVC P e m (.ar q off len) K =
  oB (nrm (elt P e)) fun u=>oB (nrm (lay P u)) fun p=>oB (nrm (zer P u)) fun zs=>oB (nrm (arrLv m q)) fun a=>a.1 = p.1 ∧ 0 < p.1 ∧ zs.length = p.1 ∧ zs.all (oneV m) = true ∧ K (m.set q (.arr true p.1 (a.2.take off ++ Za len zs ++ a.2.drop (off + len)))):=by
 unfold clrVC arrLv
 cases elt P e with
 | none=>rfl
 | some u =>
  simp only [nrm,oB_some]
  cases lay P u with
  | none=>rfl
  | some p =>
   obtain ⟨sz,ag⟩:=p
   cases zer P u with
   | none=>rfl
   | some zs =>
    simp only [nrm,oB_some,arV]
    cases m[q]? with
    | none=>simp [oB,nrm]
    | some ob=>cases ob <;> first | (simp [oB,nrm]; done) | (rename_i lv a b; cases lv <;> simp [oB,nrm])
theorem clrVC_arc {e : TypeId} {q off len cap : Nat} {K : List Ob → Prop} : clrVC P e m (.arc q off len cap) K =
  oB (nrm (elt P e)) fun u=>oB (nrm (lay P u)) fun p=>oB (nrm (zer P u)) fun zs=>oB (nrm (arrLv m q)) fun a=>a.1 = p.1 ∧ 0 < p.1 ∧ zs.length = p.1 ∧ zs.all (oneV m) = true ∧ K (m.set q (.arr true p.1 (a.2.take off ++ Za len zs ++ a.2.drop (off + len)))):=clrVC_ar (off:=off) (len:=len)
theorem cpyVC_eq {e : TypeId} {x y : V} {K : V → List Ob → Prop} : cpyVC P e m x y K =
  oB (nrm (elt P e)) fun u=>oB (nrm (lay P u)) fun p=>oB (nrm (elemsV m y)) fun ys=>oB (nrm (arV x)) fun a=>oB (nrm (arrLv m a.1)) fun b =>
   b.1 = p.1 ∧ 0 < p.1 ∧ (∀ z ∈ ys.take (Zp ys.length a.2.2),z.length = p.1) ∧ (∀ z ∈ (ys.take (Zp ys.length a.2.2)).flatten,oneV m z = true) ∧ K (.int .i64 (Zp ys.length a.2.2 : Nat)) (m.set a.1 (.arr true p.1 (b.2.take a.2.1 ++ ys.take (Zp ys.length a.2.2) ++ b.2.drop (a.2.1 + Zp ys.length a.2.2)))):=by
 unfold cpyVC arrLv
 cases elt P e with
 | none=>rfl
 | some u =>
  simp only [nrm,oB_some]
  cases lay P u with
  | none=>rfl
  | some p =>
   obtain ⟨sz,ag⟩:=p
   simp only [nrm,oB_some]
   cases elemsV m y with
   | none=>cases arV x <;> rfl
   | some ys =>
    cases arV x with
    | none=>rfl
    | some a =>
     obtain ⟨q,off,len⟩:=a
     simp only [nrm,oB_some]
     cases m[q]? with
     | none=>rfl
     | some ob=>cases ob <;> first | rfl | (rename_i lv a b; cases lv <;> rfl)
theorem S1_copy {x y : Operand} {e e' : TypeId} : S1 P ⟨d,.call { callee:=.builtin .copy,args:=#[x,y],argTypes:=#[e,e'] },ty,ps,af,g⟩ ⟨t,m,gs⟩ K = cpyVC P e m (St.ev t x) (St.ev t y) fun r m'=>K ⟨putT t d r,m',gs⟩:=by simp [S1]
theorem arV_ar {q off len : Nat} : arV (.ar q off len) = some (q,off,len):=nr rfl
theorem arV_arc {q off len cap : Nat} : arV (.arc q off len cap) = some (q,off,len):=nr rfl
theorem S1_clear {x : Operand} {e : TypeId} : S1 P ⟨d,.call { callee:=.builtin .clear,args:=#[x],argTypes:=#[e] },ty,ps,af,g⟩ ⟨t,m,gs⟩ K = clrVC P e m (St.ev t x) fun m'=>K ⟨putT t d (.tup []),m',gs⟩:=by simp [S1]
theorem S1_append {x y : Operand} {e e' : TypeId} : S1 P ⟨d,.call { callee:=.builtin .append,args:=#[x,y],argTypes:=#[e,e'] },ty,ps,af,g⟩ ⟨t,m,gs⟩ K = appVC P e e' m (St.ev t x) (St.ev t y) fun r m'=>K ⟨putT t d r,m',gs⟩:=by simp [S1]
@[congr] theorem sliceVC_congr {e : TypeId} {m m' : List Ob} {ev : Operand → V} {x x' : V} {lo hi mx : Option Operand} {K : V → Prop} (h0 : m = m') (h1 : x = x') : sliceVC P e m ev x lo hi mx K = sliceVC P e m' ev x' lo hi mx K:=by rw [h0,h1]
theorem sliceVC_sl {e : TypeId} {ev : Operand → V} {sz : Nat} {xs : List (List V)} {lo hi : Option Operand} {K : V → Prop} : sliceVC P e m ev (.sl sz xs) lo hi none K =
  oB (nrm (elt P e)) fun u=>oB (nrm (lay P u)) fun p=>oB (nrm (bnd ev 0 lo)) fun l=>oB (nrm (bnd ev xs.length hi)) fun h=>p.1 = sz ∧ 0 ≤ l ∧ l ≤ h ∧ h ≤ xs.length ∧ K (.sl sz ((xs.take h.toNat).drop l.toNat)):=by
 simp only [sliceVC]
 cases elt P e with
 | none=>rfl
 | some u =>
  simp only [nrm,oB_some]
  cases lay P u with
  | none=>rfl
  | some p =>
   simp only [nrm,oB_some]
   cases bnd ev 0 lo with
   | none=>rfl
   | some l=>cases bnd ev xs.length hi <;> rfl
theorem sliceVC_ar {e : TypeId} {ev : Operand → V} {q off len : Nat} {lo hi : Option Operand} {K : V → Prop} : sliceVC P e m ev (.ar q off len) lo hi none K =
  oB (nrm (elt P e)) fun u=>oB (nrm (lay P u)) fun p=>oB (nrm (bnd ev 0 lo)) fun l=>oB (nrm (bnd ev len hi)) fun h=>oB (nrm (arrAt m q)) fun a=>p.1 = a.1 ∧ 0 ≤ l ∧ l ≤ h ∧ h ≤ len ∧ K (.ar q (off + l.toNat) (h.toNat - l.toNat)):=by
 simp only [sliceVC,arrAt]
 cases elt P e with
 | none=>rfl
 | some u =>
  simp only [nrm,oB_some]
  cases lay P u with
  | none=>rfl
  | some p =>
   simp only [nrm,oB_some]
   cases bnd ev 0 lo with
   | none=>rfl
   | some l =>
    cases bnd ev len hi with
    | none=>rfl
    | some h =>
     simp only [nrm,oB_some]
     cases m[q]? with
     | none=>rfl
     | some ob=>cases ob <;> rfl
theorem sliceVC_arc {e : TypeId} {ev : Operand → V} {q off len cap : Nat} {lo hi : Option Operand} {K : V → Prop} : sliceVC P e m ev (.arc q off len cap) lo hi none K =
  oB (nrm (elt P e)) fun u=>oB (nrm (lay P u)) fun p=>oB (nrm (bnd ev 0 lo)) fun l=>oB (nrm (bnd ev len hi)) fun h=>oB (nrm (arrAt m q)) fun a=>p.1 = a.1 ∧ 0 ≤ l ∧ l ≤ h ∧ h ≤ cap ∧ off + h.toNat ≤ a.2.length ∧ K (.arc q (off + l.toNat) (h.toNat - l.toNat) (cap - l.toNat)):=by
 simp only [sliceVC,arrAt]
 cases elt P e with
 | none=>rfl
 | some u =>
  simp only [nrm,oB_some]
  cases lay P u with
  | none=>rfl
  | some p =>
   simp only [nrm,oB_some]
   cases bnd ev 0 lo with
   | none=>rfl
   | some l =>
    cases bnd ev len hi with
    | none=>rfl
    | some h =>
     simp only [nrm,oB_some]
     cases m[q]? with
     | none=>rfl
     | some ob=>cases ob <;> rfl
theorem sliceVC_3 {e : TypeId} {ev : Operand → V} {q off len cap : Nat} {xl xh xm : Operand} {K : V → Prop} : sliceVC P e m ev (.arc q off len cap) (some xl) (some xh) (some xm) K =
  oB (nrm (elt P e)) fun u=>oB (nrm (lay P u)) fun p=>oB (nrm (bnd ev 0 (some xl))) fun l=>oB (nrm (bnd ev 0 (some xh))) fun h=>oB (nrm (bnd ev 0 (some xm))) fun k=>oB (nrm (arrAt m q)) fun a=>p.1 = a.1 ∧ 0 ≤ l ∧ l ≤ h ∧ h ≤ k ∧ k ≤ cap ∧ K .junk:=by
 simp only [sliceVC,arrAt,bnd]
 cases elt P e with
 | none=>rfl
 | some u =>
  simp only [nrm,oB_some]
  cases lay P u with
  | none=>rfl
  | some p =>
   simp only [nrm,oB_some]
   cases ev xl <;> first | rfl | skip
   cases ev xh <;> first | rfl | skip
   cases ev xm <;> first | rfl | skip
   simp only [oB_some]
   cases m[q]? with
   | none=>rfl
   | some ob=>cases ob <;> rfl
theorem S1_slice {e : TypeId} {x : Operand} {lo hi : Option Operand} : S1 P ⟨d,.slice e x lo hi none,ty,ps,af,g⟩ ⟨t,m,gs⟩ K = sliceVC P e m (St.ev t) (St.ev t x) lo hi none fun r=>K ⟨putT t d r,m,gs⟩:=by simp [S1,Q1]
theorem S1_slice3 {e : TypeId} {x xm : Operand} {lo hi : Option Operand} : S1 P ⟨d,.slice e x lo hi (some xm),ty,ps,af,g⟩ ⟨t,m,gs⟩ K = sliceVC P e m (St.ev t) (St.ev t x) lo hi (some xm) fun r=>K ⟨putT t d r,m,gs⟩:=by simp [S1,Q1]
theorem S1_build {e : TypeId} {ps' : Array (Nat × Operand)} : S1 P ⟨d,.build e ps',ty,ps,af,g⟩ ⟨t,m,gs⟩ K = oB (nrm (zer P e)) fun zs=>oB (nrm (partsV m (St.ev t) ps'.toList)) fun qs=>oB (nrm (fillG (placeS P e) zs qs)) fun cs=>fldsOK P e = true ∧ K ⟨putT t d (.agg cs),m,gs⟩:=by
 simp only [S1,Q1,buildVC]
 cases zer P e with
 | none=>rfl
 | some zs =>
  cases partsV m (St.ev t) ps'.toList with
  | none=>rfl
  | some qs =>
   simp only [nrm,oB_some]
   cases fillG (placeS P e) zs qs <;> simp [oB,nrm]
theorem S1_buildSlice {e : TypeId} {len : Nat} {ps' : Array (Nat × Operand)} : S1 P ⟨d,.buildSlice e len ps',ty,ps,af,g⟩ ⟨t,m,gs⟩ K =
  oB (nrm (elt P e)) fun u=>oB (nrm (lay P u)) fun p=>oB (nrm (zer P u)) fun _=>oB (nrm (rowV m (St.ev t) p.1 0 ps'.toList)) fun xs=>0 < p.1 ∧ xs.length = len ∧ len * p.1 ≤ 2 ^ 24 ∧ K ⟨putT t d (.ar m.length 0 len),m ++ [.arr true p.1 xs],gs⟩:=by
 simp only [S1,Q1,bsliceVC]
 cases elt P e with
 | none=>rfl
 | some u =>
  simp only [nrm,oB_some]
  cases lay P u with
  | none=>rfl
  | some p =>
   cases zer P u with
   | none=>rfl
   | some zs =>
    simp only [nrm,oB_some]
    cases rowV m (St.ev t) p.1 0 ps'.toList <;> rfl
theorem T1_eq {o : Oper} (h : match o.op with | .store ..=>False | .mapUpdate ..=>False | .mapEntry ..=>False | .entryStore ..=>False | .binOp ..=>False | .buildSlice ..=>False | .call c=>(match c.callee with | .builtin .append=>False | .builtin .clear=>False | .builtin .copy=>False | .value _=>False | _=>True) | _=>True) : T1 P o st K = S1 P o st K:=by
 obtain ⟨d,op,ty,ps,af,g⟩:=o
 cases op <;> first | rfl | exact h.elim | skip
 rename_i c
 obtain ⟨callee,args,ts⟩:=c
 cases callee <;> first | rfl | exact h.elim | skip
 rename_i b
 cases b <;> first | rfl | exact h.elim
end
end Go.Pm
end
section
namespace Go.Pm
open Go.RowKit
section
variable {w : World} {Zo : Nat → Prop} {m : List Ob} {β : List Lc}
theorem Mem.select (M : Mem w Zo m β) (ks : List Nat) (hn : ks.Nodup) (hlt : ∀ q ∈ ks,q < m.length) (hp : ∀ q ∈ ks,(m.getD q .hole).refs (· ∈ ks)) :
  ∃ β',Mem w Zo (ks.map fun q=>(m.getD q .hole).ren (idx ks)) β' ∧ Tr (cx w Zo m β) (cx w Zo (ks.map fun q=>(m.getD q .hole).ren (idx ks)) β') (idx ks) (fun q=>q ∈ ks) ∧
   (∀ b,liveAt (ks.map fun q=>(m.getD q .hole).ren (idx ks)) β' b → liveAt m β b):=by
 have g1 : ∀ (j : Nat) (ob : Ob),(ks.map fun q=>(m.getD q .hole).ren (idx ks))[j]? = some ob → ∃ q ob',ks[j]? = some q ∧ m[q]? = some ob' ∧ ob = ob'.ren (idx ks):=by
  intro j ob h
  rw [Ze] at h
  cases hk : ks[j]? with
  | none=>rw [hk] at h; cases h
  | some q =>
   rw [hk] at h
   have hq:=hlt q (Zh hk)
   simp only [Zf,Option.some.injEq] at h
   rw [Zc,Zb hq] at h
   exact ⟨q,m[q],rfl,Zb hq,by simpa using h.symm⟩
 have g2 : ∀ (j : Nat) (l : Lc) (q : Nat),ks[j]? = some q → (ks.map fun q=>β.getD q ⟨0,0⟩)[j]? = some l → β[q]? = some l:=by
  intro j l q hk h
  have hq:=hlt q (Zh hk)
  rw [Ze,hk] at h
  simp only [Zf,Option.some.injEq] at h
  rw [Zc,Zb (by rw [M.len]; exact hq)] at h
  rw [Zb (by rw [M.len]; exact hq)]
  simpa using h
 have hlive : ∀ b,liveAt (ks.map fun q=>(m.getD q .hole).ren (idx ks)) (ks.map fun q=>β.getD q ⟨0,0⟩) b → liveAt m β b:=by
  rintro b ⟨j,ob,l,h1,h2,h3⟩
  obtain ⟨q,ob',hk,hm,rfl⟩:=g1 j ob h1
  rw [Ob.ren_blk] at h3
  exact ⟨q,ob',l,hm,g2 j l q hk h2,h3⟩
 have hfz : ∀ b,(cx w Zo m β).fz b → (cx w Zo (ks.map fun q=>(m.getD q .hole).ren (idx ks)) (ks.map fun q=>β.getD q ⟨0,0⟩)).fz b :=
  fun b h=>⟨h.1,fun hz=>h.2 (hz.imp id (hlive b))⟩
 have htr : Tr (cx w Zo m β) (cx w Zo (ks.map fun q=>(m.getD q .hole).ren (idx ks)) (ks.map fun q=>β.getD q ⟨0,0⟩)) (idx ks) (fun q=>q ∈ ks):=by
  refine ⟨fun b h=>⟨hfz b h,rfl⟩,fun q hq=>?_⟩
  have hk:=idx_get hq
  have hql:=hlt q hq
  have e1 : (ks.map fun q=>(m.getD q .hole).ren (idx ks))[idx ks q]? = m[q]?.map (Ob.ren (idx ks)):=by
   rw [Ze,hk,Zb hql]
   simp [Zc,hql]
  have e2 : (ks.map fun q=>β.getD q ⟨0,0⟩)[idx ks q]? = β[q]?:=by
   have hql' : q < β.length:=by rw [M.len]; exact hql
   rw [Ze,hk,Zb hql']
   simp [Zc,hql']
  show obLe m[q]? β[q]? (ks.map fun q=>(m.getD q .hole).ren (idx ks))[idx ks q]? (ks.map fun q=>β.getD q ⟨0,0⟩)[idx ks q]?
  rw [e1,e2]
  exact obLe_ren _ _ _
 refine ⟨ks.map fun q=>β.getD q ⟨0,0⟩,⟨by simp,?_,?_,fun b h=>M.out b (hlive b h),M.zlt⟩,htr,hlive⟩
 ·intro j ob l h1 h2
  obtain ⟨q,ob',hk,hm,rfl⟩:=g1 j ob h1
  have hβ:=g2 j l q hk h2
  have hok:=M.ok q ob' l hm hβ
  have hpu:=hp q (Zh hk)
  rw [Zc,hm] at hpu
  cases ob' with
  | hole=>trivial
  | dead=>trivial
  | box lv cs =>
   obtain ⟨us,e,fr,k1,k2,k3,k4,k5⟩:=hok
   exact ⟨us,e,fr,k1,by rw [rens_length]; exact k2,k3,RC.tr htr l.b rfl cs 0 hpu k4,k5.imp id (hfz _)⟩
  | arr lv sz xs =>
   obtain ⟨k1,k2,k3,k4⟩:=hok
   refine ⟨by rw [renss_length]; exact k1,k2,k3,k4.imp id ?_⟩
   rintro ⟨us,e,fr,q1,q2,q3,q4,q5⟩
   exact ⟨us,e,fr,q1,q2,q3,RR.tr htr sz l.b rfl xs 0 hpu q4,q5.imp id (hfz _)⟩
  | mp lv ks' vs =>
   obtain ⟨es,n,k1,k2,k3,kb,k4⟩:=hok
   exact ⟨es,n,k1,RVs.tr htr ks' _ hpu.1 k2,RVs.tr htr vs _ hpu.2 k3,kb,k4.imp id (hfz _)⟩
 ·intro j j' ob ob' l l' b h1 h2 h3 h4 h5 h6
  obtain ⟨q,o1,hk,hm,rfl⟩:=g1 j ob h1
  obtain ⟨q',o2,hk',hm',rfl⟩:=g1 j' ob' h2
  rw [Ob.ren_blk] at h5 h6
  have e:=M.sep q q' o1 o2 l l' b hm hm' (g2 j l q hk h3) (g2 j' l' q' hk' h4) h5 h6
  subst e
  exact (ZA (Zd.1 hk).1 hn).1 (hk.trans hk'.symm)
end
def wkT (ks : List Nat) : List V → List V → Prop
 | [],ys=>ys = []
 | x :: xs,y :: ys=>(y = .junk ∨ (Ref (· ∈ ks) x ∧ y = x.ren (idx ks))) ∧ wkT ks xs ys
 | _ :: _,[]=>False
theorem wkT_sound {c c' : Cx} {ks : List Nat} (h : Tr c c' (idx ks) (fun q=>q ∈ ks)) : ∀ {xs ys : List V} {us : List Value},wkT ks xs ys → RVs c xs us → RVs c' ys us
 | [],ys,us,k,r=>by rw [show ys = [] from k]; exact r
 | x :: xs,y :: ys,us,⟨k1,k2⟩,⟨u,us',e,r1,r2⟩=>by
   refine ⟨u,us',e,?_,wkT_sound h k2 r2⟩
   rcases k1 with rfl | ⟨k1,rfl⟩
   ·trivial
   ·exact RV.tr h x u k1 r1
 | x :: xs,[],us,k,r=>k.elim
def Wk (ks : List Nat) (st st' : St) : Prop :=
 ks.Nodup ∧ (∀ q ∈ ks,q < st.m.length) ∧ (∀ q ∈ ks,(st.m.getD q .hole).refs (· ∈ ks)) ∧ st'.m = (ks.map fun q=>(st.m.getD q .hole).ren (idx ks)) ∧ wkT ks st.t st'.t ∧ wkT ks st.g st'.g
theorem Wk.rel {ks : List Nat} {st st' : St} {w0 : World} {E Zo : Nat → Prop} {gh : List Value} {a : Act} {w : World} (h : Wk ks st st') (r : Rel w0 E Zo gh st a w) : Rel w0 E Zo gh st' a w:=by
 obtain ⟨h1,h2,h3,h4,h5,h6⟩:=h
 obtain ⟨β,M,r1,r2,r3,r4,r5⟩:=r
 obtain ⟨β',M',htr,hl⟩:=M.select ks h1 h2 h3
 obtain ⟨t',m',g'⟩:=st'
 simp only at h4 h5 h6
 subst h4
 exact ⟨β',M',fun b hb=>r1 b (hl b hb),r2,r3,wkT_sound htr h5 r4,wkT_sound htr h6 r5⟩
section
variable {P : Program} {st : St} {Q : Exit → St → Prop}
theorem SW.wk {c : Code} {st' : St} (ks : List Nat) (h : Wk ks st st') (k : SW P c st' Q) : SW P c st Q:=fun w0 E Zo gh a w r=>k w0 E Zo gh a w (h.rel r)
def Again {A : Type} (F : A → St) (μ : A → Nat) (I : A → Prop) (a : A) (st' : St) : Prop:=∃ a' ks,I a' ∧ μ a' < μ a ∧ Wk ks st' (F a')
@[congr] theorem Again_congr {A : Type} {F : A → St} {μ : A → Nat} {I : A → Prop} {a : A} {st st' : St} (h : st = st') : Again F μ I a st = Again F μ I a st':=by rw [h]
theorem Again.mk {A : Type} {F : A → St} {μ : A → Nat} {I : A → Prop} {a : A} {st' : St} (a' : A) (ks : List Nat) (h1 : I a') (h2 : μ a' < μ a) (h3 : Wk ks st' (F a')) : Again F μ I a st':=⟨a',ks,h1,h2,h3⟩
theorem SW.while {c : Code} {A : Type} (F : A → St) (μ : A → Nat) (I : A → Prop) (a0 : A) (ks : List Nat) (hI : I a0) (h0 : Wk ks st (F a0))
  (round : ∀ a,I a → SW P c (F a) (andThen (Again F μ I a) Q)) : SW P (.loop c) st Q:=by
 refine SW.wk ks h0 (SW.loop (fun n st=>∃ a,μ a = n ∧ I a ∧ ∃ st1,st = st1 ∧ st1 = F a) (μ a0) ⟨a0,rfl,hI,_,rfl,rfl⟩ ?_)
 rintro n _ ⟨a,rfl,hIa,_,rfl,rfl⟩
 intro w0 E Zo gh ac w r
 refine wp_mono (round a hIa w0 E Zo gh ac w r) ?_
 rintro e a' w' ⟨st',q,r'⟩
 cases e with
 | normal =>
  obtain ⟨a2,ks2,h1,h2,h3⟩:=q
  exact ⟨F a2,⟨μ a2,h2,a2,rfl,h1,_,rfl,rfl⟩,h3.rel r'⟩
 | exit id=>exact ⟨st',q,r'⟩
 | goto l=>exact ⟨st',q,r'⟩
 | ret=>exact ⟨st',q,r'⟩
 | panic ch=>exact ⟨st',q,r'⟩
 | outgrown=>exact ⟨st',q,r'⟩
def quietN : List Oper → Nat
 | []=>0
 | o :: os=>match o.op with
   | .store ..=>0
   | .mapUpdate ..=>0
   | .mapEntry ..=>0
   | .entryStore ..=>0
   | .call c=>match c.callee with
     | .builtin .append=>0
     | .builtin .clear=>0
     | .builtin .copy=>0
     | _=>quietN os + 1
   | _=>quietN os + 1
def DR (P : Program) (ops : Array Oper) (st : St) (K : St → Prop) : Prop:=P.follows .mixedOrders = true ∧ okB ops st.t (quietN ops.toList) = true ∧ RQ P (dsts ops) (quietN ops.toList) ops.toList st K
def isBl : V → Prop
 | .bool _=>True
 | _=>False
theorem isBl_b {b : Bool} : isBl (.bool b) = True:=nr rfl
def CW (P : Program) : Code → St → (Exit → St → Prop) → Prop
 | .skip,st,Q=>Q .normal st
 | .ret,st,Q=>Q .ret st
 | .exit id,st,Q=>Q (.exit id) st
 | .seq x y,st,Q=>CW P x st (andThen (fun st'=>CW P y st' Q) Q)
 | .block id c,st,Q=>CW P c st (inBlk id Q)
 | .cond c x y,st,Q=>isBl (St.ev st.t c) ∧ gB (St.ev st.t c) true (CW P x st Q) (CW P y st Q)
 | .region id ops dr,st,Q=>if dr then DR P ops st (Q .normal) else RS P (dsts ops) ops.toList st (Q .normal)
 | c,st,Q=>SW P c st Q
theorem andThen_mono {K K' : St → Prop} {Q : Exit → St → Prop} (h : ∀ st,K st → K' st) : ∀ e st,andThen K Q e st → andThen K' Q e st:=by
 intro e st k
 cases e <;> first | exact h _ k | exact k
theorem CW.sound : ∀ {c : Code} {st : St} {Q : Exit → St → Prop},CW P c st Q → SW P c st Q
 | .skip,st,Q,h=>SW.skip h
 | .ret,st,Q,h=>SW.ret h
 | .exit id,st,Q,h=>SW.exit h
 | .seq x y,st,Q,h=>SW.seq ((CW.sound (c:=x) h).mono (andThen_mono fun st' k=>CW.sound (c:=y) k))
 | .block id c,st,Q,h=>SW.block (CW.sound (c:=c) h)
 | .cond c x y,st,Q,h=>by
   have h : isBl (St.ev st.t c) ∧ gB (St.ev st.t c) true (CW P x st Q) (CW P y st Q):=h
   obtain ⟨hbl,h⟩:=h
   unfold gB at h
   split at h
   ·rename_i b hb
    refine SW.cond hb (fun e=>?_) (fun e=>?_)
    ·subst e
     exact CW.sound (c:=x) h
    ·subst e
     exact CW.sound (c:=y) (by simpa using h)
   ·rename_i e
    rw [e] at hbl
    exact hbl.elim
   ·exact h.elim
 | .region id ops dr,st,Q,h=>by
   unfold CW at h
   cases dr with
   | false=>exact SW.region1 (by simpa using h)
   | true =>
    have h : DR P ops st (Q .normal):=by simpa using h
    exact SW.drawnO _ h.1 h.2.1 h.2.2
 | .loop c,st,Q,h=>h
 | .goto ..,st,Q,h=>h
 | .rangeFunc ..,st,Q,h=>h
 | .scope ..,st,Q,h=>h
 | .label ..,st,Q,h=>h
 | .refuse ..,st,Q,h=>h
end
end Go.Pm
end
section
namespace Go.Pm
open Go.RowKit
theorem Ob.still_still (ob : Ob) : ob.still.still = ob.still:=by cases ob <;> rfl
theorem frzM_get : ∀ (qs : List Nat) (m : List Ob) (q : Nat),(frzM qs m)[q]? = if q ∈ qs then m[q]?.map Ob.still else m[q]?
 | [],m,q=>by simp [frzM]
 | p :: qs,m,q=>by
   simp only [frzM]
   rw [frzM_get qs]
   have h : (frz1 m p)[q]? = if p = q then m[q]?.map Ob.still else m[q]?:=by
    unfold frz1
    by_cases e : p = q
    ·subst e
     simp only [if_true]
     cases hm : m[p]? with
     | none=>simp [hm]
     | some ob =>
      simp only [Zf]
      rw [Zu (Zd.1 hm).1]
    ·simp only [e,if_false]
     split
     ·rw [Zs e]
     ·rfl
   rw [h]
   by_cases e : p = q
   ·subst e
    simp only [if_true,Zv,true_or]
    split
    ·cases m[p]? <;> simp [Ob.still_still]
    ·rfl
   ·have e' : ¬ q = p:=fun h=>e h.symm
    simp [e,e']
theorem frzM_all (m : List Ob) : frzM ((Zi m.length).filter fun q=>!([] : List Nat).contains q) m = m.map Ob.still:=by
 apply Zn
 intro q
 rw [frzM_get,Ze]
 by_cases h : q < m.length
 ·rw [if_pos (by simp [h])]
 ·rw [if_neg (by simp [h]),Zl (by omega)]; rfl
def r8 {α : Type} (a0 a1 a2 a3 a4 a5 a6 a7 : α) (l : List α) : List α:=a0 :: a1 :: a2 :: a3 :: a4 :: a5 :: a6 :: a7 :: l
def mk8 {α : Type} (l : List α) : List α:=l
section
variable {α : Type} {a0 a1 a2 a3 a4 a5 a6 a7 x d : α} {l : List α} {n : Nat}
theorem r8_set0 : (r8 a0 a1 a2 a3 a4 a5 a6 a7 l).set 0 x = r8 x a1 a2 a3 a4 a5 a6 a7 l:=nr rfl
theorem r8_get0 : (r8 a0 a1 a2 a3 a4 a5 a6 a7 l).getD 0 d = a0:=nr rfl
theorem r8_set1 : (r8 a0 a1 a2 a3 a4 a5 a6 a7 l).set 1 x = r8 a0 x a2 a3 a4 a5 a6 a7 l:=nr rfl
theorem r8_get1 : (r8 a0 a1 a2 a3 a4 a5 a6 a7 l).getD 1 d = a1:=nr rfl
theorem r8_set2 : (r8 a0 a1 a2 a3 a4 a5 a6 a7 l).set 2 x = r8 a0 a1 x a3 a4 a5 a6 a7 l:=nr rfl
theorem r8_get2 : (r8 a0 a1 a2 a3 a4 a5 a6 a7 l).getD 2 d = a2:=nr rfl
theorem r8_set3 : (r8 a0 a1 a2 a3 a4 a5 a6 a7 l).set 3 x = r8 a0 a1 a2 x a4 a5 a6 a7 l:=nr rfl
theorem r8_get3 : (r8 a0 a1 a2 a3 a4 a5 a6 a7 l).getD 3 d = a3:=nr rfl
theorem r8_set4 : (r8 a0 a1 a2 a3 a4 a5 a6 a7 l).set 4 x = r8 a0 a1 a2 a3 x a5 a6 a7 l:=nr rfl
theorem r8_get4 : (r8 a0 a1 a2 a3 a4 a5 a6 a7 l).getD 4 d = a4:=nr rfl
theorem r8_set5 : (r8 a0 a1 a2 a3 a4 a5 a6 a7 l).set 5 x = r8 a0 a1 a2 a3 a4 x a6 a7 l:=nr rfl
theorem r8_get5 : (r8 a0 a1 a2 a3 a4 a5 a6 a7 l).getD 5 d = a5:=nr rfl
theorem r8_set6 : (r8 a0 a1 a2 a3 a4 a5 a6 a7 l).set 6 x = r8 a0 a1 a2 a3 a4 a5 x a7 l:=nr rfl
theorem r8_get6 : (r8 a0 a1 a2 a3 a4 a5 a6 a7 l).getD 6 d = a6:=nr rfl
theorem r8_set7 : (r8 a0 a1 a2 a3 a4 a5 a6 a7 l).set 7 x = r8 a0 a1 a2 a3 a4 a5 a6 x l:=nr rfl
theorem r8_get7 : (r8 a0 a1 a2 a3 a4 a5 a6 a7 l).getD 7 d = a7:=nr rfl
theorem r8_setn : (r8 a0 a1 a2 a3 a4 a5 a6 a7 l).set (n + 8) x = r8 a0 a1 a2 a3 a4 a5 a6 a7 (l.set n x):=nr rfl
theorem r8_getn : (r8 a0 a1 a2 a3 a4 a5 a6 a7 l).getD (n + 8) d = l.getD n d:=nr rfl
theorem mk8_r : mk8 (a0 :: a1 :: a2 :: a3 :: a4 :: a5 :: a6 :: a7 :: l) = r8 a0 a1 a2 a3 a4 a5 a6 a7 (mk8 l):=nr rfl
theorem mk8_0 : mk8 ([] : List α) = []:=nr rfl
theorem mk8_1 : mk8 ([a0] : List α) = [a0]:=nr rfl
theorem mk8_2 : mk8 ([a0,a1] : List α) = [a0,a1]:=nr rfl
theorem mk8_3 : mk8 ([a0,a1,a2] : List α) = [a0,a1,a2]:=nr rfl
theorem mk8_4 : mk8 ([a0,a1,a2,a3] : List α) = [a0,a1,a2,a3]:=nr rfl
theorem mk8_5 : mk8 ([a0,a1,a2,a3,a4] : List α) = [a0,a1,a2,a3,a4]:=nr rfl
theorem mk8_6 : mk8 ([a0,a1,a2,a3,a4,a5] : List α) = [a0,a1,a2,a3,a4,a5]:=nr rfl
theorem mk8_7 : mk8 ([a0,a1,a2,a3,a4,a5,a6] : List α) = [a0,a1,a2,a3,a4,a5,a6]:=nr rfl
end
def wk1 (ks : List Nat) (x y : V) : Prop:=y = .junk ∨ (Ref (· ∈ ks) x ∧ y = x.ren (idx ks))
theorem wk1_junk {ks : List Nat} {x : V} : wk1 ks x .junk = True:=by simp [wk1]
theorem wk1_v {ks : List Nat} {x y : V} (h : y ≠ .junk) : wk1 ks x y = (Ref (· ∈ ks) x ∧ y = x.ren (idx ks)):=by simp [wk1,h]
theorem wkT_r8 {ks : List Nat} {a0 a1 a2 a3 a4 a5 a6 a7 b0 b1 b2 b3 b4 b5 b6 b7 : V} {l l' : List V} : wkT ks (r8 a0 a1 a2 a3 a4 a5 a6 a7 l) (r8 b0 b1 b2 b3 b4 b5 b6 b7 l') = (wk1 ks a0 b0 ∧ wk1 ks a1 b1 ∧ wk1 ks a2 b2 ∧ wk1 ks a3 b3 ∧ wk1 ks a4 b4 ∧ wk1 ks a5 b5 ∧ wk1 ks a6 b6 ∧ wk1 ks a7 b7 ∧ wkT ks l l'):=by
 simp only [r8,wkT,wk1,and_assoc]
def fin (P : Program) (rs : List ResultVar) (r : V) (e : Exit) (st : St) : Prop :=
 e = .ret ∧ resV P st rs [] (fun xs=>Ref (fun _=>False) (convR st.m (packV xs)) ∧ convR st.m (packV xs) = r)
theorem resV_mono {P : Program} {st : St} : ∀ (rs : List ResultVar) {acc : List V} {K K' : List V → Prop},(∀ xs,K xs → K' xs) → resV P st rs acc K → resV P st rs acc K'
 | [],acc,K,K',h,k=>h _ k
 | .tmp t :: rs,acc,K,K',h,k=>resV_mono rs h k
 | .cell a t :: rs,acc,K,K',h,k=>by
   unfold resV at k ⊢
   have : ∀ (x : V) (K1 K2 : V → Prop),(∀ r,K1 r → K2 r) → ldVC P t st.m x K1 → ldVC P t st.m x K2:=by
    intro x K1 K2 h12 h3
    rw [ldVC_eq] at h3 ⊢
    unfold oP at h3 ⊢
    split
    ·rename_i p1 p2 hp
     rw [hp] at h3
     simp only at h3
     have rd : ∀ (ag : Bool) (sz : Nat) (cs : List V),rdVC ag sz cs K1 → rdVC ag sz cs K2:=by
      intro ag sz cs h4
      unfold rdVC at h4 ⊢
      cases ag <;> simp only [if_true,if_false,Bool.false_eq_true] at h4 ⊢ <;> exact ⟨h4.1,h12 _ h4.2⟩
     unfold ldX at h3 ⊢
     split at h3 <;> first | exact h3.elim | skip
     ·unfold oB at h3 ⊢; split at h3
      ·exact rd _ _ _ h3
      ·exact h3.elim
     ·unfold oB at h3 ⊢; split at h3
      ·simp only at h3 ⊢
       split at h3
       ·exact rd _ _ _ h3
       ·exact h3.elim
      ·exact h3.elim
     ·unfold oB at h3 ⊢; split at h3
      ·exact rd _ _ _ h3
      ·exact h3.elim
     ·exact rd _ _ _ h3
    ·rename_i hp
     rw [hp] at h3
     exact h3
   exact this _ _ _ (fun r=>resV_mono rs h) k
structure Con (P : Program) (f : FuncId) (args : List V) (r : V) : Prop where
 ok : bodyOK P f = true
 pr : Ref (fun _=>False) r
 c : Contract P f args r []
section
variable {P : Program}
theorem name_of_call {f : FuncId} {fn : Func} (hf : P.funcs[f]? = some fn) (h : ∀ (args : Array Value) (w : World), (callFunc f args).run P w = .ok (.enter f args) w) : (fn.name == "runtime.NumGoroutine") = false := by
 cases hn : (fn.name == "runtime.NumGoroutine") with
 | false=>rfl
 | true =>
  have:=h #[] default
  rw [beq_iff_eq] at hn
  simp [callFunc,hf,hn] at this
theorem Con.ofS {f : FuncId} {fn : Func} {c : Code} {args : List V} {r : V} {rs : List ResultVar} {n : Nat} (hf : P.funcs[f]? = some fn) (hb : fn.body = some c) (hcall : ∀ (args : Array Value) (w : World),(callFunc f args).run P w = .ok (.enter f args) w)
  (hr : fn.results = rs.toArray) (hn : fn.ntmps = n) (hp : Ref (fun _=>False) r)
  (h : SW P c ⟨mk8 (args ++ Za (n - args.length) .junk),[],[]⟩ (fin P rs r)) : Con P f args r:=by
 have hname:=name_of_call hf hcall
 subst hn
 have hr : fn.results.toList = rs:=by rw [hr]
 subst hr
 refine ⟨?_,hp,?_⟩
 ·unfold bodyOK
  rw [hf]
  simp [hb,hname]
 ·refine Contract.of hf hb (h.mono ?_)
  rintro e st ⟨he,hk⟩
  refine ⟨he,[],List.nodup_nil,by simp,by simp,rfl,resV_mono _ ?_ hk⟩
  rintro xs ⟨k1,k2⟩
  unfold convR at k1 k2
  rw [frzM_all]
  refine ⟨Ref.mono (fun _ h=>h.elim) _ k1,?_⟩
  rw [V.ren_pure _ k1]
  exact k2.symm
theorem Con.of {f : FuncId} {fn : Func} {c : Code} {args : List V} {r : V} {rs : List ResultVar} {n : Nat} (hf : P.funcs[f]? = some fn) (hb : fn.body = some c) (hcall : ∀ (args : Array Value) (w : World),(callFunc f args).run P w = .ok (.enter f args) w)
  (hr : fn.results = rs.toArray) (hn : fn.ntmps = n) (hp : Ref (fun _=>False) r)
  (h : CW P c ⟨mk8 (args ++ Za (n - args.length) .junk),[],[]⟩ (fin P rs r)) : Con P f args r:=Con.ofS hf hb hcall hr hn hp (CW.sound h)
theorem callVC.con {f : FuncId} {xs : List V} {m : List Ob} {b : Nat} {K : V → List Ob → Prop} {r : V} (h : Con P f xs r) (hp : Refs (fun _=>False) xs) (k : K r []) : callVC P f xs m b K :=
 .inl ⟨r,[],.inl ⟨_,VLes.refl _,h.c,hp⟩,fun ob h=>by simp at h,h.ok,by rw [V.ren_pure r h.pr]; exact k⟩
theorem callVC.conF {f : FuncId} {xs xs' : List V} {m : List Ob} {b : Nat} {K : V → List Ob → Prop} {r : V} (h : Con P f xs' r) (e : convRs m xs = xs') (hp : Refs (fun _=>False) xs') (hr : Flat r) (k : K r []) : callVC P f xs m b K :=
 .inl ⟨r,[],.inr (by subst e; exact ⟨h.c,hp,hr,fun ob h=>by simp at h⟩),fun ob h=>by simp at h,h.ok,by rw [V.ren_pure r h.pr]; exact k⟩
structure NCon (P : Program) (f : FuncId) (args : List V) (r : V) (mr : List Ob) : Prop where
 ok : bodyOK P f = true
 pu : ∀ ob ∈ mr,ob.pure
 c : Contract P f args r mr
theorem callVC.new {f : FuncId} {xs : List V} {m mr : List Ob} {b : Nat} {K : V → List Ob → Prop} {r : V} (h : NCon P f xs r mr) (hp : Refs (fun _=>False) xs) (k : K (r.ren fun q=>b + q) mr) : callVC P f xs m b K :=
 .inl ⟨r,mr,.inl ⟨_,VLes.refl _,h.c,hp⟩,h.pu,h.ok,k⟩
structure LCon (P : Program) (f : FuncId) (args : List V) (m : List Ob) (r : V) (m' : List Ob) : Prop where
 ok : bodyOK P f = true
 c : CT P f args m r m'
def LRes (m0 m : List Ob) (g : List V) (x r : V) (m' : List Ob) : Prop :=
 (∃ ks,Wk ks ⟨[x],m,g⟩ ⟨[r],m',plc 0 m0⟩) ∨ (x = .nil ∧ m0 = [] ∧ ∃ sz,0 < sz ∧ r = .ar 0 0 0 ∧ m' = [.arr true sz []])
class LR where
 m0 : List Ob
 r : V
 m' : List Ob
def LResY (m : List Ob) (g : List V) (x : V) [lr : LR] : Prop:=LRes lr.m0 m g x lr.r lr.m'
@[congr] theorem LResY_congr {m m1 : List Ob} {g g1 : List V} {x x1 : V} [lr : LR] (h1 : m = m1) (h2 : g = g1) (h3 : x = x1) : LResY m g x = LResY m1 g1 x1:=by rw [h1,h2,h3]
theorem LResY.mk {m0 m : List Ob} {g : List V} {x r : V} {m' : List Ob} (ks : List Nat) (h : Wk ks ⟨[x],m,g⟩ ⟨[r],m',plc 0 m0⟩) : @LResY m g x ⟨m0,r,m'⟩:=.inl ⟨ks,h⟩
theorem LResY.nil {m : List Ob} {g : List V} {sz : Nat} (h : 0 < sz) : @LResY m g .nil ⟨[],.ar 0 0 0,[.arr true sz []]⟩:=.inr ⟨rfl,rfl,sz,h,rfl,rfl⟩
def isEnd : Exit → Prop
 | .ret=>True
 | .normal=>True
 | _=>False
def finL (P : Program) (rs : List ResultVar) (m0 : List Ob) (r : V) (m' : List Ob) (e : Exit) (st : St) : Prop :=
 isEnd e ∧ resV P st rs [] (fun xs=>@LResY st.m st.g (packV xs) ⟨m0,r,m'⟩)
theorem finL_ret {st : St} {rs : List ResultVar} {m0 : List Ob} {r : V} {m' : List Ob} : finL P rs m0 r m' .ret st = resV P st rs [] (fun xs=>@LResY st.m st.g (packV xs) ⟨m0,r,m'⟩):=by simp [finL,isEnd]
theorem LCon.ofS {f : FuncId} {fn : Func} {c : Code} {args : List V} {m0 : List Ob} {r : V} {m' : List Ob} {rs : List ResultVar} {n : Nat} (hf : P.funcs[f]? = some fn) (hb : fn.body = some c) (hcall : ∀ (args : Array Value) (w : World),(callFunc f args).run P w = .ok (.enter f args) w)
  (hr : fn.results = rs.toArray) (hn : fn.ntmps = n)
  (h : SW P c ⟨mk8 (args ++ Za (n - args.length) .junk),m0,plc 0 m0⟩ (finL P rs m0 r m')) : LCon P f args m0 r m':=by
 have hname:=name_of_call hf hcall
 subst hn
 have hr : fn.results.toList = rs:=by rw [hr]
 subst hr
 refine ⟨?_,?_⟩
 ·unfold bodyOK
  rw [hf]
  simp [hb,hname]
 intro w Zo β us M hargs
 have hlen:=hargs.length
 refine calls_of_wp hf hb ?_
 have hrep : ∀ n,RVs (cx w Zo m0 β) (Za n .junk) (Za n undef):=by
  intro n
  induction n with
  | zero=>rfl
  | succ n ih=>exact ⟨undef,Za n undef,rfl,trivial,ih⟩
 refine wp_mono (h w (liveAt m0 β) Zo (plv m0 β) _ w ⟨β,M,fun b hb=>.inl hb,Frame.refl _ w,rfl,?_,plc_in m0 β 0 M.len (fun i ob hi=>by rw [Zj]; exact hi) (fun i l hi=>by rw [Zj]; exact hi)⟩) ?_
 ·have:=hargs.append (hrep (fn.ntmps - args.length))
  simpa [hlen,mk8] using this
 ·rintro e a' w' ⟨st',⟨he,hk⟩,β1,M1,h1,h2,h3,h4,h5⟩
  obtain ⟨xs,vs,q,q3,q4⟩:=res_sound (P:=P) M1 h4 fn.results.toList [] _ [] rfl hk
  have hres : (results fn a'.tmps).run P w' = .ok (if h : vs.toArray.size = 1 then vs.toArray[0] else .tuple vs.toArray) w':=by
   rw [results_eq,Zw]
   simp [Sem.run_bind,q4]
  rw [Zq] at q3
  have hv:=pack_sound q3
  generalize hvv : (if h : vs.toArray.size = 1 then vs.toArray[0] else Value.tuple vs.toArray) = v at hres hv
  suffices key : bodyPost P fn (fun e w'=>∃ v β',e = .returned v ∧ Frame (liveAt m0 β) w w' ∧ Mem w' Zo m' β' ∧ RVs (cx w' Zo m' β') (plc 0 m0) (plv m0 β) ∧ RV (cx w' Zo m' β') r v ∧ ∀ b,liveAt m' β' b → liveAt m0 β b ∨ w.heap.size ≤ b) .ret a' w' by
   cases e <;> first | exact he.elim | exact key
  rcases q with ⟨ks,hw⟩ | ⟨hx,hm0,sz,hsz,hr,hm'⟩
  ·have hrel : Rel w (liveAt m0 β) Zo (plv m0 β) ⟨[packV xs],st'.m,st'.g⟩ { tmps:=#[v],defers:=[] } w':=⟨β1,M1,h1,h2,rfl,RVs.one hv,h5⟩
   obtain ⟨β2,M2,k1,k2,_,⟨u,us',eu,k4,_⟩,k5⟩:=hw.rel hrel
   injection eu with e1 e2
   subst e1
   exact ⟨h3,_,hres,v,β2,rfl,k2,M2,k5,k4,k1⟩
  ·simp only at hm0 hr hm'
   subst hm0; subst hr; subst hm'
   rw [hx] at hv
   have hv : v = .slice none 0 0:=hv
   refine ⟨h3,_,hres,v,[⟨0,0⟩],rfl,h2,⟨rfl,?_,?_,?_,M1.zlt⟩,?_,?_,?_⟩
   ·intro o ob l g1 g2
    cases o with
    | zero =>
     simp at g1 g2
     subst g1; subst g2
     exact ⟨Zg _,by decide,hsz,.inl rfl⟩
    | succ o=>simp at g1
   ·intro o o' ob ob' l l' b g1 g2 g3 g4 g5 g6
    cases o with
    | zero =>
     simp at g1 g3
     subst g1; subst g3
     simp [Ob.blk] at g5
    | succ o=>simp at g1
   ·rintro b ⟨o,ob,l,g1,g2,g3⟩
    cases o with
    | zero =>
     simp at g1 g2
     subst g1; subst g2
     simp [Ob.blk] at g3
    | succ o=>simp at g1
   ·rfl
   ·rw [hv]
    exact ⟨Zg _,none,rfl,fun h=>by simp at h⟩
   ·rintro b ⟨o,ob,l,g1,g2,g3⟩
    cases o with
    | zero =>
     simp at g1 g2
     subst g1; subst g2
     simp [Ob.blk] at g3
    | succ o=>simp at g1
theorem LCon.of {f : FuncId} {fn : Func} {c : Code} {args : List V} {m0 : List Ob} {r : V} {m' : List Ob} {rs : List ResultVar} {n : Nat} (hf : P.funcs[f]? = some fn) (hb : fn.body = some c) (hcall : ∀ (args : Array Value) (w : World),(callFunc f args).run P w = .ok (.enter f args) w)
  (hr : fn.results = rs.toArray) (hn : fn.ntmps = n)
  (h : CW P c ⟨mk8 (args ++ Za (n - args.length) .junk),m0,plc 0 m0⟩ (finL P rs m0 r m')) : LCon P f args m0 r m':=LCon.ofS hf hb hcall hr hn (CW.sound h)
theorem LCon.contract {f : FuncId} {args : List V} {r : V} {mr : List Ob} (h : LCon P f args [] r mr) : Contract P f args r mr:=by
 intro w Zo us hz hargs
 have M0 : Mem w Zo [] []:=⟨rfl,fun o ob l h=>by simp at h,fun o o' ob ob' l l' b h=>by simp at h,fun b ⟨o,ob,l,h,_⟩=>by simp at h,hz⟩
 refine (h.c w Zo [] us M0 hargs).mono ?_
 rintro e w' ⟨v,β',rfl,G,M',_,hv,hl⟩
 refine ⟨v,β',rfl,G.mono ?_,M',hv,fun b hb=>(hl b hb).resolve_left ?_⟩
 ·rintro b ⟨o,ob,l,h,_⟩; simp at h
 ·rintro ⟨o,ob,l,h,_⟩; simp at h
theorem LCon.new {f : FuncId} {args : List V} {r : V} {mr : List Ob} (h : LCon P f args [] r mr) (hp : ∀ ob ∈ mr,ob.pure) : NCon P f args r mr:=⟨h.ok,hp,h.contract⟩
theorem NCon.con {f : FuncId} {args : List V} {r : V} {mr : List Ob} (h : NCon P f args r mr) (hp : Ref (fun _=>False) (convR mr r)) : Con P f args (convR mr r):=by
 refine ⟨h.ok,hp,?_⟩
 intro w Zo us hz hargs
 refine (h.c w Zo us hz hargs).mono ?_
 rintro e w' ⟨v,β',rfl,G,M',hv,hl⟩
 have M0 : Mem w' Zo [] []:=⟨rfl,fun o ob l h=>by simp at h,fun o o' ob ob' l l' b h=>by simp at h,fun b ⟨o,ob,l,h,_⟩=>by simp at h,M'.zlt⟩
 exact ⟨v,[],rfl,G,M0,convZ M' (Agree.refl _) r v hp hv,fun b ⟨o,ob,l,h,_⟩=>by simp at h⟩
theorem LCon.conD (n : Nat) {f : FuncId} {args : List V} {r : V} {mr : List Ob} (h : LCon P f args [] r mr) (hp : Ref (fun _=>False) (dcv n mr r)) : Con P f args (dcv n mr r):=by
 refine ⟨h.ok,hp,?_⟩
 intro w Zo us hz hargs
 refine (h.contract w Zo us hz hargs).mono ?_
 rintro e w' ⟨v,β',rfl,G,M',hv,hl⟩
 have M0 : Mem w' Zo [] []:=⟨rfl,fun o ob l h=>by simp at h,fun o o' ob ob' l l' b h=>by simp at h,fun b ⟨o,ob,l,h,_⟩=>by simp at h,M'.zlt⟩
 exact ⟨v,[],rfl,G,M0,dcv_sound M' (Agree.refl _) n r v hp hv,fun b ⟨o,ob,l,h,_⟩=>by simp at h⟩
end
section
variable {P : Program} {f : FuncId} {fs cs xs xs' : List V} {m : List Ob} {K KL : V → List Ob → Prop} {r : V} {mr : List Ob}
theorem clY.con (h : Con P f xs r) (hp : Refs (fun _=>False) xs) (k : K r []) : @clY P (.fn f [] []) xs m ⟨K,KL⟩:=by
 unfold clY
 rw [clX_fn,Zt,Zq]
 exact .inl (callVC.con h hp k)
theorem clY.conC (h : Con P f xs' r) (e : fs ++ xs ++ cs = xs') (hp : Refs (fun _=>False) xs') (k : K r []) : @clY P (.fn f fs cs) xs m ⟨K,KL⟩:=by
 subst e
 exact .inl (callVC.con h hp k)
theorem clY.conF (h : Con P f xs' r) (e : convRs m (fs ++ xs ++ cs) = xs') (hp : Refs (fun _=>False) xs') (hr : Flat r) (k : K r []) : @clY P (.fn f fs cs) xs m ⟨K,KL⟩ :=
 .inl (callVC.conF h e hp hr k)
theorem clY.new (h : NCon P f xs r mr) (hp : Refs (fun _=>False) xs) (k : K (r.ren fun q=>m.length + q) mr) : @clY P (.fn f [] []) xs m ⟨K,KL⟩:=by
 unfold clY
 rw [clX_fn,Zt,Zq]
 exact .inl (callVC.new h hp k)
theorem clY.conD (n : Nat) (h : Con P f xs' r) (e : (fs ++ xs ++ cs).map (dcv n m) = xs') (hp : Refs (fun _=>False) xs') (hr : Flat r) (k : K r []) : @clY P (.fn f fs cs) xs m ⟨K,KL⟩:=by
 subst e
 exact .inl (.inr ⟨r,[],n,h.c,hp,hr,fun ob h=>by simp at h,h.ok,by rw [V.ren_pure r h.pr]; exact k⟩)
theorem clY.newD (n : Nat) (h : LCon P f xs' [] r mr) (e : (fs ++ xs ++ cs).map (dcv n m) = xs') (hp : Refs (fun _=>False) xs') (hr : Flat r) (hfl : ∀ ob ∈ mr,ob.flat) (k : K (r.ren fun q=>m.length + q) (mr.map (Ob.ren fun q=>m.length + q))) : @clY P (.fn f fs cs) xs m ⟨K,KL⟩:=by
 subst e
 exact .inl (.inr ⟨r,mr,n,h.contract,hp,hr,hfl,h.ok,k⟩)
def Ob.alive : Ob → Bool
 | .dead=>false
 | _=>true
def LArg (ks fz : List Nat) (m : List Ob) (xs xs' : List V) (m0 : List Ob) : Prop :=
 ks.Nodup ∧ (∀ q ∈ ks,q < m.length ∧ ((frzM fz m).getD q .hole).refs (· ∈ ks) ∧ ((frzM fz m).getD q .hole).alive = true) ∧ Refs (· ∈ ks) (convs (frzM fz m) xs) ∧ rens (idx ks) (convs (frzM fz m) xs) = xs' ∧ sel ks (frzM fz m) = m0
theorem clY.live (ks fz : List Nat) {m0 m' : List Ob} (h : LCon P f xs' m0 r m') (e : LArg ks fz m (fs ++ xs ++ cs) xs' m0) (hl : ks.length ≤ m'.length)
  (k : KL (r.ren (sg ks m.length)) (bk (frzM fz m) ks (m'.map (Ob.ren (sg ks m.length))))) : @clY P (.fn f fs cs) xs m ⟨K,KL⟩:=by
 obtain ⟨h1,h2,h3,h4,h5⟩:=e
 subst h4; subst h5
 exact .inr (.inl ⟨ks,fz,r,m',h.ok,h1,fun q hq=>(h2 q hq).1,fun q hq=>(h2 q hq).2.1,(fun q hq (he : (frzM fz m).getD q Ob.hole = Ob.dead)=>by have h6:=(h2 q hq).2.2; rw [he] at h6; cases h6),h3,hl,h.c,k⟩)
theorem clY.ov (h : ovOK P f m xs) (k : KL (.bool false) m) : @clY P (.fn f [] []) xs m ⟨K,KL⟩:=.inr (.inr ⟨rfl,rfl,h,k⟩)
end
section
variable {P : Program} {st : St} {Q : Exit → St → Prop}
theorem CW_skip : CW P .skip st Q = Q .normal st:=nr rfl
theorem CW_ret : CW P .ret st Q = Q .ret st:=nr rfl
theorem CW_exit {id : Nat} : CW P (.exit id) st Q = Q (.exit id) st:=nr rfl
theorem CW_seq {x y : Code} : CW P (.seq x y) st Q = CW P x st (andThen (fun st'=>CW P y st' Q) Q):=nr rfl
theorem CW_block {id : Nat} {c : Code} : CW P (.block id c) st Q = CW P c st (inBlk id Q):=nr rfl
theorem CW_cond {c : Operand} {x y : Code} : CW P (.cond c x y) st Q = (isBl (St.ev st.t c) ∧ gB (St.ev st.t c) true (CW P x st Q) (CW P y st Q)):=nr rfl
theorem CW_region {id : Nat} {ops : Array Oper} : CW P (.region id ops false) st Q = RS P (dsts ops) ops.toList st (Q .normal):=by simp [CW]
theorem CW_drawn {id : Nat} {ops : Array Oper} : CW P (.region id ops true) st Q = DR P ops st (Q .normal):=by simp [CW]
theorem CW_loop {c : Code} : CW P (.loop c) st Q = SW P (.loop c) st Q:=nr rfl
theorem andThen_n {K : St → Prop} : andThen K Q .normal st = K st:=nr rfl
theorem andThen_r {K : St → Prop} : andThen K Q .ret st = Q .ret st:=nr rfl
theorem andThen_e {K : St → Prop} {id : Nat} : andThen K Q (.exit id) st = Q (.exit id) st:=nr rfl
theorem inBlk_n {id : Nat} : inBlk id Q .normal st = Q .normal st:=nr rfl
theorem inBlk_r {id : Nat} : inBlk id Q .ret st = Q .ret st:=nr rfl
theorem inBlk_e {id : Nat} : inBlk id Q (.exit id) st = Q .normal st:=by simp [inBlk]
theorem inBlk_o {id id' : Nat} (h : id' ≠ id) : inBlk id Q (.exit id') st = Q (.exit id') st:=by simp [inBlk,h]
theorem fin_ret {rs : List ResultVar} {r : V} : fin P rs r .ret st = resV P st rs [] (fun xs=>Ref (fun _=>False) (convR st.m (packV xs)) ∧ convR st.m (packV xs) = r):=by simp [fin]
theorem resV_nil {acc : List V} {K : List V → Prop} : resV P st [] acc K = K acc:=nr rfl
theorem resV_tmp {acc : List V} {t : Tmp} {rs : List ResultVar} {K : List V → Prop} : resV P st (.tmp t :: rs) acc K = resV P st rs (acc ++ [st.t.getD t .junk]) K:=nr rfl
theorem resV_cell {acc : List V} {a : Tmp} {t : TypeId} {rs : List ResultVar} {K : List V → Prop} : resV P st (.cell a t :: rs) acc K = ldVC P t st.m (st.t.getD a .junk) (fun x=>resV P st rs (acc ++ [x]) K):=nr rfl
end
theorem packV_one {x : V} : packV [x] = x:=nr rfl
theorem packV_two {x y : V} {xs : List V} : packV (x :: y :: xs) = .tup (x :: y :: xs):=nr rfl
theorem convR_ar {m : List Ob} {q off len : Nat} : convR m (.ar q off len) = match arrAt m q with
  | some (sz,xs)=>.sl sz ((xs.drop off).take len)
  | none=>.ar q off len:=by
 simp only [convR,conv,arrAt,Ze]
 cases m[q]? with
 | none=>rfl
 | some ob=>cases ob <;> rfl
theorem convR_ptr {m : List Ob} {q off : Nat} : convR m (.ptr q off) = match boxAt m q with
  | some cs=>.fptr cs off
  | none=>.ptr q off:=by
 simp only [convR,conv,boxAt,Ze]
 cases m[q]? with
 | none=>rfl
 | some ob=>cases ob <;> rfl
section
variable {m : List Ob}
theorem convR_agg {cs : List V} : convR m (.agg cs) = .agg (convRs m cs):=nr rfl
theorem convR_tup {cs : List V} : convR m (.tup cs) = .tup (convRs m cs):=nr rfl
theorem convR_fn {f : FuncId} {fs cs : List V} : convR m (.fn f fs cs) = .fn f (convRs m fs) (convRs m cs):=nr rfl
theorem convR_int {k : IntKind} {n : Int} : convR m (.int k n) = .int k n:=nr rfl
theorem convR_bool {b : Bool} : convR m (.bool b) = .bool b:=nr rfl
theorem convR_str {s : ByteArray} : convR m (.str s) = .str s:=nr rfl
theorem convR_nil : convR m .nil = .nil:=nr rfl
theorem convR_sl {sz : Nat} {xs : List (List V)} : convR m (.sl sz xs) = .sl sz xs:=nr rfl
theorem convRs_nil : convRs m [] = []:=nr rfl
theorem convRs_cons {x : V} {xs : List V} : convRs m (x :: xs) = convR m x :: convRs m xs:=nr rfl
end
theorem Refss_map {α : Type} {ok : Nat → Prop} {f : α → List V} {l : List α} (h : ∀ a,Refs ok (f a)) : Refss ok (l.map f):=Refss.of fun x hx=>by
 obtain ⟨a,_,rfl⟩:=Zx.1 hx
 exact h a
theorem renss_map {α : Type} {ρ : Nat → Nat} {f : α → List V} {l : List α} (h : ∀ a,Refs (fun _=>False) (f a)) : renss ρ (l.map f) = l.map f:=renss_pure _ (Refss_map h)
end Go.Pm
end
section
namespace Go.Pm
open Go.RowKit
theorem putT_some {t : List V} {d : Tmp} {x : V} : putT t (some d) x = t.set d x:=by cases t <;> rfl
theorem putT_none {t : List V} {x : V} : putT t none x = t:=by cases t <;> rfl
theorem ev_tmp {t : List V} {i : Tmp} : St.ev t (.tmp i) = t.getD i .junk:=by cases t <;> rfl
theorem ev_const {t : List V} {v : Value} : St.ev t (.const v) = ofVal v:=by cases t <;> rfl
theorem ev_func {t : List V} {f : FuncId} : St.ev t (.func f) = .fn f [] []:=by cases t <;> rfl
theorem ofVal_int {k : IntKind} {n : Int} : ofVal (.int k n) = .int k n:=nr rfl
theorem ofVal_bool {b : Bool} : ofVal (.bool b) = .bool b:=nr rfl
theorem ofVal_str {s : ByteArray} : ofVal (.string s) = .str s:=nr rfl
theorem ofVal_nil : ofVal (.slice none 0 0) = .nil:=nr rfl
def RSi (P : Program) (ds : List (Option Tmp)) (os : List Oper) (st : St) (K : St → Prop) : Prop:=RS P ds os st K
def RQi (P : Program) (ds : List (Option Tmp)) (k : Nat) (os : List Oper) (st : St) (K : St → Prop) : Prop:=RQ P ds k os st K
section
variable {P : Program} {ds : List (Option Tmp)} {o : Oper} {os : List Oper} {st : St} {K : St → Prop} {k : Nat}
@[congr] theorem RSi_congr {ds' : List (Option Tmp)} (h1 : ds = ds') : RSi P ds os st K = RSi P ds' os st K:=by rw [h1]
@[congr] theorem RQi_congr {ds' : List (Option Tmp)} {k' : Nat} (h0 : k = k') (h1 : ds = ds') : RQi P ds k os st K = RQi P ds' k' os st K:=by rw [h0,h1]
theorem CW_region' {id : Nat} {ops : Array Oper} {Q : Exit → St → Prop} : CW P (.region id ops false) st Q = RSi P (dsts ops) ops.toList st (Q .normal):=CW_region
theorem CW_drawn' {id : Nat} {ops : Array Oper} {Q : Exit → St → Prop} : CW P (.region id ops true) st Q = (P.follows .mixedOrders = true ∧ okB ops st.t (quietN ops.toList) = true ∧ RQi P (dsts ops) (quietN ops.toList) ops.toList st (Q .normal)):=CW_drawn
end
section
variable {P : Program} {ds : List (Option Tmp)} {os : List Oper} {t : List V} {m : List Ob} {gs : List V} {K : St → Prop} {d : Option Tmp} {op : Op} {ty : TypeId} {ps : String} {af : Array Edge} {j : Nat} {w : Bool} {k : Nat}
theorem RSi_cons_n : RSi P ds (⟨d,op,ty,ps,af,none⟩ :: os) ⟨t,m,gs⟩ K = S1 P ⟨d,op,ty,ps,af,none⟩ ⟨t,m,gs⟩ (fun st'=>RS P ds os st' K):=RS_cons_n
theorem RQi_cons_n : RQi P ds (k + 1) (⟨d,op,ty,ps,af,none⟩ :: os) ⟨t,m,gs⟩ K = T1 P ⟨d,op,ty,ps,af,none⟩ ⟨t,m,gs⟩ (fun st'=>RQ P ds k os st' K):=RQ_cons_n
end
theorem dsts_mk {os : List Oper} : dsts os.toArray = mk8 (os.map (·.dst)):=nr rfl
theorem wkT_nil {ks : List Nat} : wkT ks [] [] = True:=by simp [wkT]
theorem wkT_junk {ks : List Nat} {x : V} {xs ys : List V} : wkT ks (x :: xs) (.junk :: ys) = wkT ks xs ys:=by simp [wkT]
theorem wkT_cons {ks : List Nat} {x y : V} {xs ys : List V} (h : y ≠ .junk) : wkT ks (x :: xs) (y :: ys) = ((Ref (· ∈ ks) x ∧ y = x.ren (idx ks)) ∧ wkT ks xs ys):=by simp [wkT,h]
def AllP (p : Nat → Prop) : List Nat → Prop
 | []=>True
 | k :: ks=>p k ∧ AllP p ks
theorem AllP_nil {p : Nat → Prop} : AllP p [] = True:=nr rfl
theorem AllP_cons {p : Nat → Prop} {k : Nat} {ks : List Nat} : AllP p (k :: ks) = (p k ∧ AllP p ks):=nr rfl
theorem AllP_iff {p : Nat → Prop} : ∀ {ks : List Nat},AllP p ks ↔ ∀ q ∈ ks,p q
 | []=>by simp [AllP]
 | k :: ks=>by simp [AllP,AllP_iff (ks:=ks)]
theorem Wk_eq {ks : List Nat} {t t' gs gs' : List V} {m m' : List Ob} : Wk ks ⟨t,m,gs⟩ ⟨t',m',gs'⟩ = (ks.Nodup ∧ AllP (fun q=>q < m.length) ks ∧ AllP (fun q=>(m.getD q .hole).refs (· ∈ ks)) ks ∧ m' = (ks.map fun q=>(m.getD q .hole).ren (idx ks)) ∧ wkT ks t t' ∧ wkT ks gs gs'):=by
 rw [AllP_iff,AllP_iff]; rfl
theorem idx_z {k : Nat} {ks : List Nat} : idx (k :: ks) k = 0:=by simp [idx]
theorem idx_s {k q : Nat} {ks : List Nat} (h : k ≠ q) : idx (k :: ks) q = idx ks q + 1:=by simp [idx,h]
theorem Wk_nil {t t' : List V} : Wk [] ⟨t,[],[]⟩ ⟨t',[],[]⟩ = wkT [] t t':=by simp [Wk,wkT]
theorem LArg_eq {ks fz : List Nat} {m m0 : List Ob} {xs xs' : List V} : LArg ks fz m xs xs' m0 = (ks.Nodup ∧ AllP (fun q=>q < m.length ∧ ((frzM fz m).getD q .hole).refs (· ∈ ks) ∧ ((frzM fz m).getD q .hole).alive = true) ks ∧ Refs (· ∈ ks) (convs (frzM fz m) xs) ∧ rens (idx ks) (convs (frzM fz m) xs) = xs' ∧ (ks.map fun q=>((frzM fz m).getD q .hole).ren (idx ks)) = m0):=by
 rw [AllP_iff]; rfl
theorem frzM_nil {m : List Ob} : frzM [] m = m:=nr rfl
theorem frzM_cons {q : Nat} {qs : List Nat} {m : List Ob} : frzM (q :: qs) m = frzM qs (frz1 m q):=nr rfl
theorem frz1_z {ob : Ob} {m : List Ob} : frz1 (ob :: m) 0 = ob.still :: m:=nr rfl
theorem frz1_s {ob : Ob} {m : List Ob} {q : Nat} : frz1 (ob :: m) (q + 1) = ob :: frz1 m q:=by
 unfold frz1
 rw [ZC]
 cases m[q]? <;> rfl
theorem still_arr {lv : Bool} {sz : Nat} {xs : List (List V)} : (Ob.arr lv sz xs).still = .arr false sz xs:=nr rfl
def arrFr (m : List Ob) (q : Nat) : Option (Nat × List (List V)):=match m[q]? with
 | some (.arr false sz xs)=>some (sz,xs)
 | _=>none
def boxFr (m : List Ob) (q : Nat) : Option (List V):=match m[q]? with
 | some (.box false cs)=>some cs
 | _=>none
theorem arrFr_f {sz : Nat} {xs : List (List V)} {m : List Ob} : arrFr (.arr false sz xs :: m) 0 = some (sz,xs):=nr rfl
theorem arrFr_t {sz : Nat} {xs : List (List V)} {m : List Ob} : arrFr (.arr true sz xs :: m) 0 = none:=nr rfl
theorem arrFr_d {m : List Ob} : arrFr (.dead :: m) 0 = none:=nr rfl
theorem arrFr_s {ob : Ob} {m : List Ob} {q : Nat} : arrFr (ob :: m) (q + 1) = arrFr m q:=by simp [arrFr]
theorem boxFr_t {cs : List V} {m : List Ob} : boxFr (.box true cs :: m) 0 = none:=nr rfl
theorem boxFr_s {ob : Ob} {m : List Ob} {q : Nat} : boxFr (ob :: m) (q + 1) = boxFr m q:=by simp [boxFr]
def convA (q off len : Nat) : Option (Nat × List (List V)) → V
 | some p=>.sl p.1 ((p.2.drop off).take len)
 | none=>.ar q off len
def convP (q off : Nat) : Option (List V) → V
 | some cs=>.fptr cs off
 | none=>.ptr q off
theorem conv_ar {m : List Ob} {q off len : Nat} : conv m (.ar q off len) = convA q off len (arrFr m q):=by
 simp only [conv,arrFr]
 split <;> rename_i h
 ·rw [h]; rfl
 ·cases hm : m[q]? with
  | none=>rfl
  | some ob =>
   cases ob with
   | arr lv sz xs =>
    cases lv
    ·exact absurd hm (h _ _)
    ·rfl
   | _=>rfl
theorem conv_ptr {m : List Ob} {q off : Nat} : conv m (.ptr q off) = convP q off (boxFr m q):=by
 simp only [conv,boxFr]
 split <;> rename_i h
 ·rw [h]; rfl
 ·cases hm : m[q]? with
  | none=>rfl
  | some ob =>
   cases ob with
   | box lv cs =>
    cases lv
    ·exact absurd hm (h _)
    ·rfl
   | _=>rfl
theorem convA_s {q off len sz : Nat} {xs : List (List V)} : convA q off len (some (sz,xs)) = .sl sz ((xs.drop off).take len):=nr rfl
theorem convA_n {q off len : Nat} : convA q off len none = .ar q off len:=nr rfl
theorem convP_n {q off : Nat} : convP q off none = .ptr q off:=nr rfl
section
variable {m : List Ob}
theorem conv_agg {cs : List V} : conv m (.agg cs) = .agg (convs m cs):=nr rfl
theorem conv_int {k : IntKind} {n : Int} : conv m (.int k n) = .int k n:=nr rfl
theorem conv_bool {b : Bool} : conv m (.bool b) = .bool b:=nr rfl
theorem conv_str {s : ByteArray} : conv m (.str s) = .str s:=nr rfl
theorem conv_sl {sz : Nat} {xs : List (List V)} : conv m (.sl sz xs) = .sl sz xs:=nr rfl
theorem convs_nil : convs m [] = []:=nr rfl
theorem convs_cons {x : V} {xs : List V} : convs m (x :: xs) = conv m x :: convs m xs:=nr rfl
end
theorem plc_nil {o : Nat} : plc o [] = []:=nr rfl
theorem plc_arr {o : Nat} {lv : Bool} {sz : Nat} {xs : List (List V)} {m : List Ob} : plc o (.arr lv sz xs :: m) = .ar o 0 xs.length :: .eptr o 1 0 :: plc (o + 1) m:=nr rfl
theorem bk_eq {α : Type} {m m' : List α} {ks : List Nat} : bk m ks m' = upd m ks m' ++ m'.drop ks.length:=nr rfl
theorem upd_c {α : Type} {l xs : List α} {k : Nat} {ks : List Nat} {x : α} : upd l (k :: ks) (x :: xs) = upd (l.set k x) ks xs:=nr rfl
theorem upd_n {α : Type} {l xs : List α} : upd l [] xs = l:=by cases xs <;> rfl
theorem oren_arr {ρ : Nat → Nat} {lv : Bool} {sz : Nat} {xs : List (List V)} : (Ob.arr lv sz xs).ren ρ = .arr lv sz (renss ρ xs):=nr rfl
theorem renss_nil {ρ : Nat → Nat} : renss ρ [] = []:=nr rfl
theorem renss_cons {ρ : Nat → Nat} {x : List V} {xs : List (List V)} : renss ρ (x :: xs) = rens ρ x :: renss ρ xs:=nr rfl
def pad (n : Nat) (l : List V) : List V:=mk8 (l ++ Za (n - l.length) .junk)
section
variable {P : Program} {st : St} {K : St → Prop} {d : Option Tmp} {ty : TypeId} {ps : String} {af : Array Edge} {g : Option (Nat × Bool)}
theorem T1_move {x : Operand} : T1 P ⟨d,.move x,ty,ps,af,g⟩ st K = S1 P ⟨d,.move x,ty,ps,af,g⟩ st K:=T1_eq trivial
theorem T1_assign {x : Operand} : T1 P ⟨d,.assign x,ty,ps,af,g⟩ st K = S1 P ⟨d,.assign x,ty,ps,af,g⟩ st K:=T1_eq trivial
theorem T1_pick {x y z : Operand} : T1 P ⟨d,.pick x y z,ty,ps,af,g⟩ st K = S1 P ⟨d,.pick x y z,ty,ps,af,g⟩ st K:=T1_eq trivial
theorem T1_alloc {e : TypeId} : T1 P ⟨d,.alloc e,ty,ps,af,g⟩ st K = S1 P ⟨d,.alloc e,ty,ps,af,g⟩ st K:=T1_eq trivial
theorem T1_load {e : TypeId} {x : Operand} : T1 P ⟨d,.load e x,ty,ps,af,g⟩ st K = S1 P ⟨d,.load e x,ty,ps,af,g⟩ st K:=T1_eq trivial
theorem T1_nilCheck {x : Operand} : T1 P ⟨d,.nilCheck x,ty,ps,af,g⟩ st K = S1 P ⟨d,.nilCheck x,ty,ps,af,g⟩ st K:=T1_eq trivial
theorem T1_unOp {b : UnOp} {e : TypeId} {x : Operand} : T1 P ⟨d,.unOp b e x,ty,ps,af,g⟩ st K = S1 P ⟨d,.unOp b e x,ty,ps,af,g⟩ st K:=T1_eq trivial
theorem T1_makeSlice {e : TypeId} {x y : Operand} : T1 P ⟨d,.makeSlice e x y,ty,ps,af,g⟩ st K = S1 P ⟨d,.makeSlice e x y,ty,ps,af,g⟩ st K:=T1_eq trivial
theorem T1_slice {e : TypeId} {x : Operand} {lo hi mx : Option Operand} : T1 P ⟨d,.slice e x lo hi mx,ty,ps,af,g⟩ st K = S1 P ⟨d,.slice e x lo hi mx,ty,ps,af,g⟩ st K:=T1_eq trivial
theorem T1_fieldAddr {s f : Nat} {x : Operand} : T1 P ⟨d,.fieldAddr s x f,ty,ps,af,g⟩ st K = S1 P ⟨d,.fieldAddr s x f,ty,ps,af,g⟩ st K:=T1_eq trivial
theorem T1_indexAddr {e : TypeId} {x y : Operand} : T1 P ⟨d,.indexAddr e x y,ty,ps,af,g⟩ st K = S1 P ⟨d,.indexAddr e x y,ty,ps,af,g⟩ st K:=T1_eq trivial
theorem T1_build {e : TypeId} {qs : Array (Nat × Operand)} : T1 P ⟨d,.build e qs,ty,ps,af,g⟩ st K = S1 P ⟨d,.build e qs,ty,ps,af,g⟩ st K:=T1_eq trivial
theorem T1_len {as : Array Operand} {ts : Array TypeId} : T1 P ⟨d,.call { callee:=.builtin .len,args:=as,argTypes:=ts },ty,ps,af,g⟩ st K = S1 P ⟨d,.call { callee:=.builtin .len,args:=as,argTypes:=ts },ty,ps,af,g⟩ st K:=T1_eq trivial
end
def lookD {α β : Type} [BEq α] (l : List (α × β)) (k : α) (d : β) : β:=match l.find? fun p=>k == p.1 with
 | some p=>p.2
 | none=>d
def hasK {α β : Type} [BEq α] (l : List (α × β)) (k : α) : Bool:=l.any fun p=>k == p.1
def putK {α β : Type} [BEq α] : List (α × β) → α → β → List (α × β)
 | [],k,v=>[(k,v)]
 | p :: l,k,v=>if k == p.1 then (p.1,v) :: l else p :: putK l k v
def mpI {β : Type} (kd : IntKind) (f : β → V) (l : List (Int × β)) : List V × List V:=(l.map fun p=>V.int kd p.1,l.map fun p=>f p.2)
def posK {β : Type} (l : List (Int × β)) (k : Int) : Nat:=(findI k (l.map (·.1))).getD l.length
attribute [mvcgen_simp] Wk_eq LArg_eq Ob.alive conv_ar conv_ptr convA_s convA_n convP_n conv_agg conv_int conv_bool conv_str conv_sl convs_nil convs_cons arrFr_f arrFr_t arrFr_d arrFr_s boxFr_t boxFr_s eq_self AllP_nil AllP_cons idx_z Ob.arr.injEq Ob.box.injEq idx_s List.nodup_cons List.nodup_nil Zv List.not_mem_nil or_false or_true true_or false_or not_false_eq_true Ob.refs Ob.ren eq_self and_self and_true true_and Refss renss
attribute [method_specs_simp ↓] S1_clear S1_cap capVC_arc lenVC_arc sliceVC_3 S1_slice3 sliceVC_arc appVC_arcS appVC_arcI clrVC_arc S1_copy cpyVC_eq clrVC_ar bnX_nilsl convVC_ar finL_ret frzM_nil frzM_cons frz1_z frz1_s still_arr plc_nil plc_arr bk_eq upd_c upd_n oren_arr renss_nil renss_cons oB_h oP_h hB_some hP_some gB_u gB_tt gB_ft gB_tf gB_ff RS_nil RSi_cons_n RQ_nil RQ_zero RQi_cons_n T1_move T1_assign T1_pick T1_alloc T1_load T1_nilCheck T1_binOp' T1_unOp T1_makeSlice T1_slice T1_fieldAddr T1_indexAddr T1_build T1_bsS T1_call' T1_len rdVC_t rdVC_f ldVC_eq ldX_ptr ldX_eptr ldX_sptr ldX_fptr stX_ptr stX_eptr S1_move S1_assign pkX_t pkX_f S1_pick S1_alloc S1_box S1_load S1_store S1_nilCheck bxX_int bxX_str bxX_sl bxX_agg bxX_ar bnX_add bnX_sub bnX_eql bnX_neq bnX_lss bnX_leq bnX_gtr bnX_geq bnX_quo bnX_rem bnX_shr bnX_sadd bnX_seql bnX_sneq bnX_beql S1_binOp unVC_not S1_unOp cnvVC_int cnvVC_ar convVC_int S1_convert S1_makeFunc mksVC_eq S1_makeSlice S1_fieldAddr iaddrVC_sl iaddrVC_ar S1_indexAddr extrVC_eq S1_extract lenVC_str lenVC_sl lenVC_ar S1_len S1_max S1_call appVC_ar S1_append sliceVC_sl sliceVC_ar S1_slice S1_build S1_buildSlice CW_skip CW_ret CW_exit CW_seq CW_block CW_cond CW_region' CW_drawn' CW_loop andThen_n andThen_r andThen_e inBlk_n inBlk_r inBlk_e fin_ret resV_nil resV_tmp resV_cell
attribute [method_specs_simp] Zf elemsV_ar elemsV_arc arV_ar arV_arc S1_clear S1_cap capVC_arc lenVC_arc sliceVC_3 S1_slice3 sliceVC_arc appVC_arcS appVC_arcI clrVC_arc S1_copy cpyVC_eq clrVC_ar V.arc.injEq bnX_nilsl convVC_ar finL_ret frzM_nil frzM_cons frz1_z frz1_s still_arr plc_nil plc_arr bk_eq upd_c upd_n oren_arr renss_nil renss_cons oB_h oP_h hB_some hP_some gB_u gB_tt gB_ft gB_tf gB_ff RS_nil RSi_cons_n RQ_nil RQ_zero RQi_cons_n T1_move T1_assign T1_pick T1_alloc T1_load T1_nilCheck T1_binOp' T1_unOp T1_makeSlice T1_slice T1_fieldAddr T1_indexAddr T1_build T1_bsS T1_call' T1_len rdVC_t rdVC_f ldVC_eq ldX_ptr ldX_eptr ldX_sptr ldX_fptr stX_ptr stX_eptr S1_move S1_assign pkX_t pkX_f S1_pick S1_alloc S1_box S1_load S1_store S1_nilCheck bxX_int bxX_str bxX_sl bxX_agg bxX_ar bnX_add bnX_sub bnX_eql bnX_neq bnX_lss bnX_leq bnX_gtr bnX_geq bnX_quo bnX_rem bnX_shr bnX_sadd bnX_seql bnX_sneq bnX_beql S1_binOp unVC_not S1_unOp cnvVC_int cnvVC_ar convVC_int S1_convert S1_makeFunc mksVC_eq S1_makeSlice S1_fieldAddr iaddrVC_sl iaddrVC_ar S1_indexAddr extrVC_eq S1_extract lenVC_str lenVC_sl lenVC_ar S1_len S1_max S1_call appVC_ar S1_append sliceVC_sl sliceVC_ar S1_slice S1_build S1_buildSlice CW_skip CW_ret CW_exit CW_seq CW_block CW_cond CW_region' CW_drawn' CW_loop andThen_n andThen_r andThen_e inBlk_n inBlk_r inBlk_e fin_ret resV_nil resV_tmp resV_cell isBl_b r8_set0 r8_get0 r8_set1 r8_get1 r8_set2 r8_get2 r8_set3 r8_get3 r8_set4 r8_get4 r8_set5 r8_get5 r8_set6 r8_get6 r8_set7 r8_get7 r8_setn r8_getn mk8_r mk8_0 mk8_1 mk8_2 mk8_3 mk8_4 mk8_5 mk8_6 mk8_7 wk1_junk wk1_v wkT_r8 gset_eq gsV_b gsV_u nrm_some RS_cons_n RS_cons_g RQ_cons_n RQ_cons_g quietN pkX_b boxAt_z boxAt_s boxLv_z boxLv_s arrAt_z arrAt_s arrLv_z arrLv_s oneV_ar elemsV_ar oneV elemsV szV storeVC_eq over_z over_s cellsV V.notNil faddrVC_eq V.step mmX_eq srcV bnd partsV fillG placeS rowV inBlk_o ite_true ite_false putT_some putT_none ev_tmp ev_const ev_func ofVal_int ofVal_bool ofVal_str ofVal_nil dsts_mk List.map_cons List.map_nil List.set_cons_zero List.set_cons_succ List.getD_cons_zero List.getD_cons_succ List.length_cons List.length_nil List.cons_append Zq Zt List.drop_zero List.drop_succ_cons List.take_zero List.take_succ_cons List.drop_nil List.take_nil Ze List.getElem?_cons_zero ZC List.all_cons List.all_nil Bool.and_true Bool.true_and Option.isSome_some Zf ZD List.replicate_zero Zy Zr ZE and_true true_and and_self Int.toNat_natCast Zj Nat.add_zero Bool.not_true Bool.not_false V.int.injEq V.bool.injEq V.str.injEq V.sl.injEq V.ar.injEq V.ptr.injEq V.agg.injEq List.cons.injEq Int.natCast_add Int.cast_ofNat_Int ne_eq not_false_eq_true wkT_nil wkT_junk wkT_cons Wk_nil pad V.ren rens packV_one packV_two convR_ar convR_ptr convR_agg convR_tup convR_fn convR_int convR_bool convR_str convR_nil convR_sl convRs_nil convRs_cons Ref Refs
end Go.Pm
end
section
namespace Go.Pm
open Go.RowKit
inductive Ty where
 | int (k : IntKind)
 | bool
 | str
 | sl (sz bytes : Nat) (e : Ty)
 | st (fs : List Ty)
mutual
def In : Ty → List V → Prop
 | .int k,xs=>∃ n,xs = [.int k n] ∧ (Lit.int k n).wf = true
 | .bool,xs=>∃ b,xs = [.bool b]
 | .str,xs=>∃ s,xs = [.str s] ∧ s.size ≤ reachBytes
 | .sl sz by_ e,xs=>∃ rows,xs = [.sl sz rows] ∧ rows.length * by_ ≤ reachBytes ∧ ∀ r ∈ rows,In e r
 | .st fs,xs=>Ins fs xs
def Ins : List Ty → List V → Prop
 | [],xs=>xs = []
 | T :: Ts,xs=>∃ a b,xs = a ++ b ∧ In T a ∧ Ins Ts b
end
mutual
def OKT (P : Program) : Ty → TypeId → Prop
 | .int k,t=>P.underlying t = some (.int k)
 | .bool,t=>P.underlying t = some .bool
 | .str,t=>P.underlying t = some .string
 | .sl sz by_ e,t=>∃ u,P.underlying t = some (.slice u) ∧ OKT P e u ∧ P.cellsOf u = sz ∧ P.bytesOf u = by_ ∧ 0 < sz
 | .st Fs,t=>∃ fs,P.underlying t = some (.struct fs) ∧ OKF P Fs fs.toList 0 (P.cellsOf t)
def OKF (P : Program) : List Ty → List Field → Nat → Nat → Prop
 | [],[],o,n=>o = n
 | T :: Ts,f :: fs,o,n=>f.offset = o ∧ OKT P T f.type ∧ OKF P Ts fs (o + P.cellsOf f.type) n
 | _,_,_,_=>False
end
section
variable {H : Type} {enc : TypeId × Value → H} {P : Program} {w : World} {sp : Nat → Bool} {held : Bool}
theorem cells_at {a : Addr} {n : Nat} {cs : List Value} (h : w.cells? 0 a n = some cs) : cs.length = n ∧ ∀ j u,cs[j]? = some u → w.cell? (a.add j) = some u:=by
 unfold World.cells? at h
 rw [if_pos (Nat.zero_le _)] at h
 have hl:=mapM_some_length h
 simp only [List.length_range] at hl
 refine ⟨hl,fun j u hu=>?_⟩
 have hj : j < n:=by rw [← hl]; exact (Zd.1 hu).1
 have:=mapM_some_get h j j (by simp [hj])
 rw [hu] at this
 exact this
theorem cell_spot {a : Addr} {u : Value} (h : w.cell? a = some u) : a.spot = none ∧ a.block < w.heap.size:=by
 unfold World.cell? at h
 split at h
 ·rename_i c t fr hb
  refine ⟨?_,(Array.getElem?_eq_some_iff.1 hb).1⟩
  cases hs : a.spot with
  | none=>rfl
  | some s=>simp [hs] at h
 ·cases h
theorem list_of {α : Type} {n : Nat} {p : Nat → α → Prop} (h : ∀ i,i < n → ∃ x,p i x) : ∃ l : List α,l.length = n ∧ ∀ i x,l[i]? = some x → p i x:=by
 induction n with
 | zero=>exact ⟨[],rfl,fun i x h=>by simp at h⟩
 | succ n ih =>
  obtain ⟨l,h1,h2⟩:=ih fun i hi=>h i (by omega)
  obtain ⟨x,hx⟩:=h n (by omega)
  refine ⟨l ++ [x],by simp [h1],fun i y hy=>?_⟩
  rcases getElem?_append_one l x y i hy with h3 | ⟨rfl,rfl⟩
  ·exact h2 i y h3
  ·rw [h1]; exact hx
theorem weightsAll_mem {e : TypeId} : ∀ {ds : List (DataW H)} {d : DataW H},d ∈ ds → ∀ n ∈ d.weights P e,n ∈ DataW.weightsAll P e ds
 | d0 :: ds,d,h,n,hn=>by
   simp only [DataW.weightsAll,Zz]
   rcases Zv.1 h with rfl | h
   ·exact .inl hn
   ·exact .inr (weightsAll_mem h n hn)
abbrev c0 (w : World) : Cx:=cx w (fun _=>False) [] []
theorem fz0c {b : Nat} (h : b < w.heap.size) : (c0 w).fz b:=⟨h,fun hz=>by
 rcases hz with hz | ⟨o,ob,l,h,_⟩
 ·exact hz
 ·simp at h⟩
theorem RVs.two {c : Cx} {xs ys : List V} {us : List Value} {k : Nat} (h1 : RVs c xs (us.take k)) (h2 : RVs c ys (us.drop k)) : RVs c (xs ++ ys) us:=by
 have:=h1.append h2
 rwa [ZF] at this
mutual
theorem read_sound : ∀ (T : Ty) (t : TypeId) (fuel : Nat) (cs : List Value) (x : DataW H × List MemPlace),OKT P T t → DataW.trod enc P w 0 sp held fuel t cs = some x → (∀ n ∈ x.1.weights P t,n ≤ reachBytes) → ∃ xs,RVs (c0 w) xs cs ∧ In T xs
 | .int k,t,fuel,cs,x,ht,h,hw=>by
   obtain ⟨n,rfl,rfl,hwf⟩:=DataW.trod_int ht h
   exact ⟨[.int k n],RVs.one rfl,n,rfl,hwf⟩
 | .bool,t,fuel,cs,x,ht,h,hw=>by
   obtain ⟨b,rfl,rfl⟩:=DataW.trod_bool ht h
   exact ⟨[.bool b],RVs.one rfl,b,rfl⟩
 | .str,t,fuel,cs,x,ht,h,hw=>by
   obtain ⟨s,rfl,rfl,hs⟩:=DataW.trod_string ht h
   refine ⟨[.str s],RVs.one rfl,s,rfl,?_⟩
   have:=hw s.data.toList.length (by simp [DataW.weights])
   rw [Array.length_toList] at this
   exact this
 | .sl sz by_ e,t,fuel,cs,x,⟨u,hu,he,hsz,hby,hpos⟩,h,hw=>by
   rcases DataW.trod_slice hu h with ⟨rfl,rfl⟩ | ⟨a,len,cap,elems,rest,n,rfl,rfl,rfl,_,hl,hc,hlen,hel,_,_⟩
   ·refine ⟨[.sl sz []],RVs.one ⟨none,0,rfl,Zg _,by simp,.inl rfl⟩,[],rfl,by simp,by simp⟩
   ·have hwe : ∀ (i : Nat) (y : DataW H × List MemPlace),elems[i]? = some y → ∀ m ∈ y.1.weights P u,m ≤ reachBytes:=by
     intro i y hy m hm
     refine hw m ?_
     simp only [DataW.weights,hu,Zv,Zz]
     exact .inr (.inl (weightsAll_mem (Zx.2 ⟨y,Zh hy,rfl⟩) m hm))
    have hrow : ∀ i,i < len → ∃ row : List V,(∃ cs,w.cells? 0 (a.add (i * P.cellsOf u)) (P.cellsOf u) = some cs ∧ RVs (c0 w) row cs) ∧ In e row:=by
     intro i hi
     have h1:=hel i hi
     rw [Zb (by omega)] at h1
     cases hcs : w.cells? 0 (a.add (i * P.cellsOf u)) (P.cellsOf u) with
     | none=>rw [hcs] at h1; cases h1
     | some cs =>
      rw [hcs] at h1
      obtain ⟨row,h2,h3⟩:=read_sound e u n cs _ he h1 (hwe i _ (Zb (by omega)))
      exact ⟨row,⟨cs,rfl,h2⟩,h3⟩
    obtain ⟨rows,hrl,hrows⟩:=list_of hrow
    refine ⟨[.sl sz rows],RVs.one ⟨some a,cap,by rw [hrl],by omega,by have : maxLen = 2 ^ 63 - 1:=rfl; omega,?_⟩,rows,rfl,?_,?_⟩
    ·by_cases h0 : len = 0
     ·exact .inl (ZG (by omega))
     ·refine .inr ?_
      have key : ∀ i row,rows[i]? = some row → row.length = sz ∧ ∀ j y,row[j]? = some y → ∃ v,w.cell? ((a.add (i * sz)).add j) = some v ∧ RV (c0 w) y v:=by
       intro i row hr
       obtain ⟨⟨cs,h1,h2⟩,_⟩:=hrows i row hr
       obtain ⟨h3,h4⟩:=cells_at h1
       rw [hsz] at h3 h4
       refine ⟨by rw [← h2.length]; exact h3,fun j y hy=>?_⟩
       obtain ⟨v,h5,h6⟩:=h2.get j hy
       exact ⟨v,h4 j v h5,h6⟩
      obtain ⟨row0,hr0⟩ : ∃ row,rows[0]? = some row:=⟨rows[0]'(by omega),Zb (by omega)⟩
      obtain ⟨hl0,hk0⟩:=key 0 row0 hr0
      obtain ⟨v0,hv0,_⟩:=hk0 0 (row0[0]'(by omega)) (Zb (by omega))
      have hadd : ∀ (a : Addr),a.add 0 = a:=fun a=>by simp [Addr.add]
      rw [Nat.zero_mul,hadd,hadd] at hv0
      obtain ⟨hs,hb⟩:=cell_spot hv0
      obtain ⟨ab,ao,asp⟩:=a
      simp only at hs hb
      subst hs
      refine ⟨ab,ao,rfl,fz0c hb,RR.of_get fun i row hr=>?_⟩
      obtain ⟨h1,h2⟩:=key i row hr
      refine ⟨h1,RC.of_get fun j y hy=>?_⟩
      obtain ⟨v,h3,h4⟩:=h2 j y hy
      refine ⟨v,?_,h4⟩
      rw [add_plain,add_plain] at h3
      exact h3
    ·have:=hw ((elems.map (·.1)).length + (rest.map (·.1)).length |> (· * P.bytesOf u)) (by simp [DataW.weights,hu])
     rw [Zr,hlen] at this
     rw [hrl,← hby]
     exact Nat.le_trans (ZH _ (Nat.le_add_right _ _)) this
    ·intro r hr
     obtain ⟨i,hi⟩:=List.getElem?_of_mem hr
     exact (hrows i r hi).2
 | .st Fs,t,fuel,cs,x,⟨fs,hfs,hok⟩,h,hw=>by
   obtain ⟨xs,n,rfl,rfl,hlen,hxl,hget⟩:=DataW.trod_struct hfs h
   obtain ⟨ys,h1,h2⟩:=reads_sound Fs fs.toList 0 (P.cellsOf t) n cs xs hok (by simpa using hxl) hlen (fun i f hf=>hget i f (by simpa using hf)) (fun m hm=>hw m (by simpa [DataW.weights,hfs] using hm))
   exact ⟨ys,by simpa using h1,h2⟩
theorem reads_sound : ∀ (Ts : List Ty) (fs : List Field) (o m n : Nat) (cs : List Value) (xs : List (DataW H × List MemPlace)),OKF P Ts fs o m → xs.length = fs.length → cs.length = m →
  (∀ (i : Nat) (f : Field),fs[i]? = some f → DataW.trod enc P w 0 sp held n f.type ((cs.drop f.offset).take (P.cellsOf f.type)) = xs[i]?) → (∀ k ∈ DataW.weightsEach P (fs.map (·.type)) (xs.map (·.1)),k ≤ reachBytes) →
  ∃ ys,RVs (c0 w) ys (cs.drop o) ∧ Ins Ts ys
 | [],[],o,m,n,cs,xs,hok,hx,hc,hg,hw=>by
   have hok : o = m:=hok
   refine ⟨[],?_,rfl⟩
   rw [List.drop_eq_nil_of_le (by omega)]
   rfl
 | T :: Ts,f :: fs,o,m,n,cs,[],hok,hx,hc,hg,hw=>by simp at hx
 | T :: Ts,f :: fs,o,m,n,cs,x :: xs,⟨ho,ht,hok⟩,hx,hc,hg,hw=>by
   have h0:=hg 0 f rfl
   rw [ho] at h0
   obtain ⟨a,h1,h2⟩:=read_sound T f.type n _ x ht (by simpa using h0) (fun k hk=>hw k (by simp [DataW.weightsEach,hk]))
   obtain ⟨b,h3,h4⟩:=reads_sound Ts fs _ m n cs xs hok (by simpa using hx) hc (fun i g hgi=>by simpa using hg (i + 1) g (by simpa using hgi)) (fun k hk=>hw k (by simp [DataW.weightsEach,hk]))
   refine ⟨a ++ b,?_,a,b,rfl,h2,h4⟩
   refine RVs.two (k:=P.cellsOf f.type) h1 ?_
   rw [List.drop_drop]
   exact h3
 | [],f :: fs,o,m,n,cs,xs,hok,_,_,_,_=>hok.elim
 | T :: Ts,[],o,m,n,cs,xs,hok,_,_,_,_=>hok.elim
end
end
end Go.Pm
end
section
namespace Go.Pm
open Go.RowKit
theorem all_cons {α : Type} {a : α} {l : List α} {p : α → Prop} : (∀ z,z ∈ a :: l → p z) = (p a ∧ ∀ z,z ∈ l → p z):=by simp
theorem all_nil {α : Type} {p : α → Prop} : (∀ z,z ∈ ([] : List α) → p z) = True:=by simp
attribute [method_specs_simp ↓] all_cons all_nil
attribute [method_specs_simp] all_cons all_nil ZI List.flatten_nil
theorem VLe.junk (x : V) : VLe x .junk:=fun _ _ _=>trivial
inductive VLe2 : List V → List V → Prop
 | nil : VLe2 [] []
 | cons {x y : V} {xs ys : List V} : VLe x y → VLe2 xs ys → VLe2 (x :: xs) (y :: ys)
theorem RC.weak {c : Cx} {b : Nat} : ∀ {xs ys : List V} {o : Nat},VLe2 xs ys → RC c b o xs → RC c b o ys
 | _,_,_,.nil,_=>trivial
 | _,_,_,.cons h hs,⟨⟨u,e,k⟩,k2⟩=>⟨⟨u,e,h c u k⟩,RC.weak hs k2⟩
theorem VLe.fptr {xs ys : List V} {off : Nat} (h : VLe2 xs ys) : VLe (.fptr xs off) (.fptr ys off):=fun c v ⟨b,e,hf,k⟩=>⟨b,e,hf,RC.weak h k⟩
theorem VLe.refl (x : V) : VLe x x:=fun _ _ h=>h
theorem VLe.nil (sz : Nat) : VLe .nil (.sl sz []):=fun c v h=>⟨none,0,h,Zg _,by decide,.inl rfl⟩
theorem VLe.agg {xs ys : List V} (h : VLes xs ys) : VLe (.agg xs) (.agg ys):=fun c v ⟨us,e,k⟩=>⟨us,e,h c _ k⟩
theorem VLes.nil : VLes [] []:=fun _ _ h=>h
theorem VLes.cons {x y : V} {xs ys : List V} (h : VLe x y) (hs : VLes xs ys) : VLes (x :: xs) (y :: ys):=fun c us ⟨u,us',e,h1,h2⟩=>⟨u,us',e,h c u h1,hs c us' h2⟩
theorem VLes.same {x : V} {xs ys : List V} (hs : VLes xs ys) : VLes (x :: xs) (x :: ys):=VLes.cons (VLe.refl x) hs
section
variable {w : World} {Zo : Nat → Prop} {m : List Ob} {β : List Lc}
theorem RC.set {c : Cx} {b : Nat} : ∀ {cs : List V} {o i : Nat} {x y : V},RC c b o cs → cs[i]? = some x → (∀ v,RV c x v → RV c y v) → RC c b o (cs.set i y)
 | [],o,i,x,y,h,hi,_=>by simp at hi
 | z :: cs,o,0,x,y,⟨⟨u,e,h1⟩,h2⟩,hi,k=>by
   simp at hi; subst hi
   exact ⟨⟨u,e,k u h1⟩,h2⟩
 | z :: cs,o,i + 1,x,y,⟨h1,h2⟩,hi,k=>⟨h1,RC.set h2 (by simpa using hi) k⟩
theorem Mem.nilcell {q i sz : Nat} {lv : Bool} {cs : List V} (M : Mem w Zo m β) (hm : m[q]? = some (.box lv cs)) (hi : cs[i]? = some .nil) (hsz : 0 < sz) :
  Mem w Zo (m.set q (.box lv (cs.set i (.ar m.length 0 0))) ++ [.arr true sz []]) (β ++ [⟨0,0⟩]) ∧ (cx w Zo m β).le (cx w Zo (m.set q (.box lv (cs.set i (.ar m.length 0 0))) ++ [.arr true sz []]) (β ++ [⟨0,0⟩])) ∧
   (∀ b,liveAt (m.set q (.box lv (cs.set i (.ar m.length 0 0))) ++ [.arr true sz []]) (β ++ [⟨0,0⟩]) b → liveAt m β b):=by
 have hq : q < m.length:=(Zd.1 hm).1
 generalize hob : Ob.box lv (cs.set i (.ar m.length 0 0)) = ob
 have hblk : ∀ l,ob.blk l = (Ob.box lv cs).blk l:=by intro l; rw [← hob]; cases lv <;> rfl
 have g : ∀ (p : Nat) (x : Ob) (l : Lc),(m.set q ob ++ [.arr true sz []])[p]? = some x → (β ++ [⟨0,0⟩])[p]? = some l → (p = m.length ∧ x = .arr true sz [] ∧ l = ⟨0,0⟩) ∨ (p = q ∧ x = ob ∧ β[q]? = some l) ∨ (p ≠ q ∧ p < m.length ∧ m[p]? = some x ∧ β[p]? = some l):=by
  intro p x l h1 h2
  rcases getElem?_append_one _ _ _ _ h1 with h1 | ⟨h1,e1⟩
  ·have hp : p < m.length:=by have:=(Zd.1 h1).1; simpa using this
   rcases getElem?_append_one _ _ _ _ h2 with h2 | ⟨h2,e2⟩
   ·rcases getElem?_set_some h1 with ⟨e3,e4,_⟩ | ⟨hne,h1⟩
    ·exact .inr (.inl ⟨e3,e4,by rw [← e3]; exact h2⟩)
    ·exact .inr (.inr ⟨hne,hp,h1,h2⟩)
   ·rw [M.len] at h2; omega
  ·rcases getElem?_append_one _ _ _ _ h2 with h2 | ⟨h2,e2⟩
   ·have:=(Zd.1 h2).1
    rw [h1] at this; simp at this; rw [M.len] at this; omega
   ·exact .inl ⟨by rw [h1]; simp,e1,e2⟩
 have g' : ∀ (p : Nat) (x : Ob) (l : Lc) (b : Nat),(m.set q ob ++ [.arr true sz []])[p]? = some x → (β ++ [⟨0,0⟩])[p]? = some l → x.blk l = some b → ∃ x',m[p]? = some x' ∧ β[p]? = some l ∧ x'.blk l = some b:=by
  intro p x l b h1 h2 h3
  rcases g p x l h1 h2 with ⟨_,rfl,rfl⟩ | ⟨rfl,rfl,h4⟩ | ⟨_,_,h4,h5⟩
  ·simp [Ob.blk] at h3
  ·exact ⟨_,hm,h4,by rw [← hblk]; exact h3⟩
  ·exact ⟨x,h4,h5,h3⟩
 have hlive : ∀ b,liveAt (m.set q ob ++ [.arr true sz []]) (β ++ [⟨0,0⟩]) b → liveAt m β b:=by
  rintro b ⟨p,x,l,h1,h2,h3⟩
  obtain ⟨x',a1,a2,a3⟩:=g' p x l b h1 h2 h3
  exact ⟨p,x',l,a1,a2,a3⟩
 have hqb : q < β.length:=by rw [M.len]; exact hq
 have hle : (cx w Zo m β).le (cx w Zo (m.set q ob ++ [.arr true sz []]) (β ++ [⟨0,0⟩])):=by
  refine ⟨fun b hf=>⟨⟨hf.1,fun hz=>hf.2 (hz.imp id (hlive b))⟩,rfl⟩,fun p _=>?_⟩
  show obLe m[p]? β[p]? (m.set q ob ++ [.arr true sz []])[p]? (β ++ [⟨0,0⟩])[p]?
  by_cases e : p = q
  ·subst e
   rw [Zk (by simpa using hq),Zu hq,Zk hqb,hm,Zb hqb,← hob]
   exact .inr ⟨_,_,_,rfl,rfl,rfl⟩
  ·rcases Nat.lt_or_ge p m.length with h | h
   ·rw [Zk (by simpa using h),Zs (fun h=>e h.symm),Zk (by rw [M.len]; exact h)]
    exact obLe_refl _ _
   ·rw [Zl h]
    unfold obLe
    split <;> simp_all
 refine ⟨⟨by simp [M.len],?_,?_,fun b h=>M.out b (hlive b h),M.zlt⟩,hle,hlive⟩
 ·intro p x l h1 h2
  rcases g p x l h1 h2 with ⟨_,rfl,rfl⟩ | ⟨rfl,rfl,h4⟩ | ⟨_,_,h4,h5⟩
  ·exact ⟨Zg _,by decide,hsz,.inl rfl⟩
  ·obtain ⟨us,e,fr,k1,k2,k3,k4,k5⟩:=(M.ok _ _ l hm h4).mono hle (fun b hb=>rfl)
   have key : OK (cx w Zo (m.set p x ++ [.arr true sz []]) (β ++ [⟨0,0⟩])) l (.box lv (cs.set i (.ar m.length 0 0))):=by
    refine ⟨us,e,fr,k1,by simpa using k2,k3,?_,k5⟩
    refine RC.set k4 hi fun v hv=>?_
    have a1 : (m.set p x ++ [Ob.arr true sz []])[m.length]? = some (.arr true sz []):=by
     rw [Zm (by simp)]; simp
    have a2 : (β ++ [(⟨0,0⟩ : Lc)])[m.length]? = some ⟨0,0⟩:=by
     rw [Zm (by rw [M.len]; exact Zg _),M.len]; simp
    unfold RV
    show match (m.set p x ++ [Ob.arr true sz []])[m.length]?,(β ++ [(⟨0,0⟩ : Lc)])[m.length]? with
     | some (.arr _ sz xs),some l=>0 + 0 ≤ xs.length ∧ ∃ A,v = .slice A 0 (l.cap - 0) ∧ (0 < l.cap → A = some ⟨l.b,0 * sz,none⟩)
     | some .dead,_=>True
     | _,_=>False
    rw [a1,a2]
    exact ⟨Zg _,none,hv,fun h=>by simp at h⟩
   rw [hob] at key
   exact key
  ·exact (M.ok p x l h4 h5).mono hle (fun b hb=>rfl)
 ·intro p p' x x' l l' b h1 h2 h3 h4 h5 h6
  obtain ⟨y,a1,a2,a3⟩:=g' p x l b h1 h3 h5
  obtain ⟨y',b1,b2,b3⟩:=g' p' x' l' b h2 h4 h6
  exact M.sep _ _ _ _ _ _ b a1 b1 a2 b2 a3 b3
end
theorem SW.nilcell {P : Program} {c : Code} {t gs : List V} {m : List Ob} {Q : Exit → St → Prop} (q i sz : Nat) {lv : Bool} {cs : List V} (hm : m[q]? = some (.box lv cs)) (hi : cs[i]? = some .nil) (hsz : 0 < sz)
  (h : SW P c ⟨t,m.set q (.box lv (cs.set i (.ar m.length 0 0))) ++ [.arr true sz []],gs⟩ Q) : SW P c ⟨t,m,gs⟩ Q:=by
 intro w0 E Zo gh a w ⟨β,M,h1,h2,h3,h4,h5⟩
 obtain ⟨M1,hle,hl⟩:=M.nilcell hm hi hsz
 exact h w0 E Zo gh a w ⟨_,M1,fun b hb=>h1 b (hl b hb),h2,h3,h4.mono hle,h5.mono hle⟩
end Go.Pm
end
section
namespace Go.Pm
open Go.RowKit
def anyS (ops : Array Oper) (fl : List Nat) (k : Nat) : Bool :=
 let l:=ops.toList
 let ds:=l.map (·.dst)
 let as:=ancs (l.map fun o=>(o.after.toList.filter (Region.binds .any)).map (·.on)) []
 match ops[k]? with
 | some o=>o.dst.isNone && o.guard.isNone && (fl.all fun j=>match ds.getD j none with
   | none=>true
   | some s=>!(o.looksAt ops).contains s) && (Zi l.length).all fun i=>!Nat.blt k i || fl.all fun j=>(as.getD i []).contains j
 | none=>false
end Go.Pm
end
section
namespace Go.Pm
open Go.RowKit
section
variable {w : World} {Zo : Nat → Prop} {m : List Ob} {β : List Lc} {ob : Ob} {l : Lc} {q : Nat}
theorem Mem.moveT {ob' : Ob} (M : Mem w Zo m β) (hm : m[q]? = some ob) (hl : β[q]? = some l) (hblk : ob'.blk l = ob.blk l) (hok : ∀ c,OK c l ob → OK c l ob') :
  Mem w Zo (m.set q .dead ++ [ob']) (β ++ [l]) ∧ (cx w Zo m β).le (cx w Zo (m.set q .dead ++ [ob']) (β ++ [l])) ∧ (∀ b,liveAt (m.set q .dead ++ [ob']) (β ++ [l]) b → liveAt m β b):=by
 have hq : q < m.length:=(Zd.1 hm).1
 have hlen : (m.set q .dead).length = β.length:=by simp [M.len]
 have g : ∀ (p : Nat) (x : Ob) (r : Lc) (b : Nat),(m.set q .dead ++ [ob'])[p]? = some x → (β ++ [l])[p]? = some r → x.blk r = some b → (p ≠ q ∧ p < m.length ∧ m[p]? = some x ∧ β[p]? = some r) ∨ (p = m.length ∧ x = ob' ∧ r = l):=by
  intro p x r b h1 h2 h3
  rcases getElem?_append_one _ _ _ _ h1 with h1 | ⟨h1,e1⟩
  ·have hp : p < m.length:=by have:=(Zd.1 h1).1; simpa using this
   rcases getElem?_append_one _ _ _ _ h2 with h2 | ⟨h2,e2⟩
   ·rcases getElem?_set_some h1 with ⟨e3,e4,_⟩ | ⟨hne,h1⟩
    ·subst e4; simp [Ob.blk] at h3
    ·exact .inl ⟨hne,hp,h1,h2⟩
   ·rw [M.len] at h2; omega
  ·rcases getElem?_append_one _ _ _ _ h2 with h2 | ⟨h2,e2⟩
   ·have:=(Zd.1 h2).1
    rw [h1,hlen] at this; omega
   ·exact .inr ⟨by rw [h1]; simp,e1,e2⟩
 have hlive : ∀ b,liveAt (m.set q .dead ++ [ob']) (β ++ [l]) b → liveAt m β b:=by
  rintro b ⟨p,x,r,h1,h2,h3⟩
  rcases g p x r b h1 h2 h3 with ⟨_,_,a1,a2⟩ | ⟨_,rfl,rfl⟩
  ·exact ⟨p,x,r,a1,a2,h3⟩
  ·exact ⟨q,_,_,hm,hl,by rw [← hblk]; exact h3⟩
 have hle : (cx w Zo m β).le (cx w Zo (m.set q .dead ++ [ob']) (β ++ [l])):=by
  refine ⟨fun b hf=>⟨⟨hf.1,fun hz=>hf.2 (hz.imp id (hlive b))⟩,rfl⟩,fun p _=>?_⟩
  show obLe m[p]? β[p]? (m.set q .dead ++ [ob'])[p]? (β ++ [l])[p]?
  by_cases e : p = q
  ·subst e
   rw [Zk (by simpa using hq),Zu hq,hm,hl]
   cases ob <;> first | trivial | rfl | exact .inl rfl
  ·rcases Nat.lt_or_ge p m.length with h | h
   ·rw [Zk (by simpa using h),Zs (fun h=>e h.symm),Zk (by rw [M.len]; exact h)]
    exact obLe_refl _ _
   ·rw [Zl h]
    unfold obLe
    split <;> simp_all
 refine ⟨⟨by simp [M.len],?_,?_,fun b h=>M.out b (hlive b h),M.zlt⟩,hle,hlive⟩
 ·intro p x r h1 h2
  rcases getElem?_append_one _ _ _ _ h1 with h1 | ⟨h1,e1⟩
  ·have hp : p < m.length:=by have:=(Zd.1 h1).1; simpa using this
   rcases getElem?_append_one _ _ _ _ h2 with h2 | ⟨h2,e2⟩
   ·rcases getElem?_set_some h1 with ⟨e3,e4,_⟩ | ⟨hne,h1⟩
    ·subst e4; trivial
    ·exact (M.ok p x r h1 h2).mono hle (fun b hb=>rfl)
   ·rw [M.len] at h2; omega
  ·rcases getElem?_append_one _ _ _ _ h2 with h2 | ⟨h2,e2⟩
   ·have:=(Zd.1 h2).1
    rw [h1,hlen] at this; omega
   ·subst e1; subst e2
    exact hok _ ((M.ok q _ _ hm hl).mono hle (fun b hb=>rfl))
 ·intro p p' x x' r r' b h1 h2 h3 h4 h5 h6
  rcases g p x r b h1 h3 h5 with ⟨a0,a1,a2,a3⟩ | ⟨a1,rfl,rfl⟩ <;> rcases g p' x' r' b h2 h4 h6 with ⟨b0,b1,b2,b3⟩ | ⟨b1,e1,e2⟩
  ·exact M.sep _ _ _ _ _ _ b a2 b2 a3 b3 h5 h6
  ·subst e1; subst e2
   exact absurd (M.sep _ _ _ _ _ _ b a2 hm a3 hl h5 (by rw [← hblk]; exact h6)) a0
  ·exact absurd (M.sep _ _ _ _ _ _ b b2 hm b3 hl h6 (by rw [← hblk]; exact h5)) b0
  ·omega
end
theorem RVs.set_same {c : Cx} {x : V} : ∀ {t : List V} {us : List Value} {i : Nat},RVs c t us → (∀ u,us[i]? = some u → RV c x u) → RVs c (t.set i x) us
 | [],us,i,h,_=>h
 | y :: t,us,0,⟨u,us',e,h1,h2⟩,hx=>⟨u,us',e,hx u (by rw [e]; rfl),h2⟩
 | y :: t,us,i + 1,⟨u,us',e,h1,h2⟩,hx=>⟨u,us',e,h1,RVs.set_same h2 fun u' hu=>hx u' (by rw [e]; exact hu)⟩
theorem RVs_junk {c : Cx} : ∀ (n : Nat) (us : List Value),us.length = n → RVs c (Za n .junk) us
 | 0,us,h=>ZG h
 | n + 1,[],h=>by simp at h
 | n + 1,u :: us,h=>⟨u,us,rfl,trivial,RVs_junk n us (by simpa using h)⟩
theorem flatten_junk (n sz : Nat) : (Za n (Za sz V.junk)).flatten = Za (n * sz) .junk:=by
 induction n with
 | zero=>simp
 | succ n ih=>rw [ZD,ZI,ih,List.replicate_append_replicate,Nat.succ_mul,Nat.add_comm]
def junks (k sz : Nat) : List (List V):=Za k (Za sz .junk)
theorem junks_length (k sz : Nat) : (junks k sz).length = k:=Zy
section
variable {P : Program} {code : Code} {t : List V} {m : List Ob} {g : List V} {Q : Exit → St → Prop}
theorem RVs_at {c : Cx} {t : List V} {us : List Value} {i : Nat} {x : V} (h : RVs c t us) (hx : t[i]? = some x) : ∀ u,us[i]? = some u → RV c x u:=by
 intro u hu
 obtain ⟨u',h1,h2⟩:=h.get i hx
 rw [h1] at hu
 cases hu
 exact h2
theorem SW.reveal (i q n sz : Nat) (xs : List (List V)) (hx : t[i]? = some (.ar q 0 n)) (hm : m[q]? = some (.arr true sz xs))
  (h : ∀ c,xs.length ≤ c → c < 2 ^ 63 → SW P code ⟨t.set i (.arc q 0 n c),m.set q (.arr true sz (xs ++ junks (c - xs.length) sz)),g⟩ Q) : SW P code ⟨t,m,g⟩ Q:=by
 intro w0 E Zo gh a w ⟨β,M,hE,hF,hd,ht,hgh⟩
 obtain ⟨l,hβ,⟨b1,b2,b3,b4⟩⟩:=M.at_ hm
 have hlen : (xs ++ junks (l.cap - xs.length) sz).length = l.cap:=by simp [junks_length]; omega
 have hblk : ∀ ys' : List (List V),(Ob.arr true sz ys').blk l = (Ob.arr true sz xs).blk l:=fun ys'=>rfl
 obtain ⟨M1,hle⟩:=M.turn (w':=w) (ob':=.arr true sz (xs ++ junks (l.cap - xs.length) sz)) hm hβ (.inr ⟨_,_,rfl,rfl,by simp⟩) (fun b hb=>by rw [hblk] at hb; exact hb) rfl (fun _ _ _=>rfl)
  (fun hle _=>by
   refine ⟨by rw [hlen]; exact Zg _,b2,b3,?_⟩
   by_cases hc : l.cap = 0
   ·exact .inl hc
   ·rcases b4 with b4 | ⟨us,e,fr,k1,k2,k3,k4,k5⟩
    ·exact absurd b4 hc
    ·have k1 : w.heap[l.b]? = some (.cells us e fr):=k1
     refine .inr ⟨us,e,fr,k1,k2,k3,?_,.inl rfl⟩
     refine RR.of (us:=us.toList) ?_ ?_ ?_
     ·intro x hx'
      rcases Zz.1 hx' with hx' | hx'
      ·exact k4.length x hx'
      ·rw [List.eq_of_mem_replicate hx',Zy]
     ·have hle1 : xs.length * sz ≤ us.size:=by rw [k2]; exact ZH _ b1
      have h1:=rows_flat (c:=cx w Zo m β) k1 k4 hle1
      have h2 : RVs (cx w Zo (m.set q (.arr true sz (xs ++ junks (l.cap - xs.length) sz))) β) (Za ((l.cap - xs.length) * sz) .junk) (us.toList.drop (xs.length * sz)):=RVs_junk _ _ (by simp [k2,Nat.sub_mul])
      have h3:=(h1.mono hle).append h2
      rw [ZF] at h3
      rw [List.flatten_append]
      unfold junks
      rw [flatten_junk]
      exact h3
     ·intro j u hj
      show w.cell? ⟨l.b,0 + j,none⟩ = some u
      rw [cell_at k1,Zj]
      simpa using hj)
 have hlv : ∀ b,liveAt (m.set q (.arr true sz (xs ++ junks (l.cap - xs.length) sz))) β b → liveAt m β b:=by
  rintro b ⟨p,ob,l',h3,h4,h5⟩
  rcases getElem?_set_some h3 with ⟨e2,e3,_⟩ | ⟨hne,h3⟩
  ·subst e2; subst e3
   rw [hβ] at h4; cases h4
   exact ⟨_,_,l,hm,hβ,by rw [← hblk (xs ++ junks (l.cap - xs.length) sz)]; exact h5⟩
  ·exact ⟨p,ob,l',h3,h4,h5⟩
 refine h l.cap b1 b2 w0 E Zo gh a w ⟨β,M1,fun b hb=>hE b (hlv b hb),hF,hd,?_,hgh.mono hle⟩
 refine (ht.mono hle).set_same fun u hu=>?_
 have hv:=RVs_at ht hx u hu
 obtain ⟨_,l',hβ',_,g5,A',e1,g6⟩:=at_ar M (Agree.refl _) hm hv
 rw [hβ] at hβ'; cases hβ'
 refine RV_arc_mk (c:=cx w Zo _ β) (Zu (Zd.1 hm).1) hβ (by omega) (by rw [hlen]; omega) (by rw [e1,Nat.sub_zero]) (fun hp=>g6 (by omega))
theorem SW.kill (q sz : Nat) (xs : List (List V)) (hm : m[q]? = some (.arr true sz xs)) (h : SW P code ⟨t,m.set q .dead,g⟩ Q) : SW P code ⟨t,m,g⟩ Q:=by
 intro w0 E Zo gh a w ⟨β,M,hE,hF,hd,ht,hgh⟩
 obtain ⟨l,hβ,_⟩:=M.at_ hm
 obtain ⟨M1,hle⟩:=M.turn (w':=w) (ob':=.dead) hm hβ (.inl rfl) (fun b hb=>by simp [Ob.blk] at hb) rfl (fun _ _ _=>rfl) (fun _ _=>trivial)
 refine h w0 E Zo gh a w ⟨β,M1,fun b hb=>hE b ?_,hF,hd,ht.mono hle,hgh.mono hle⟩
 obtain ⟨p,ob,l',h3,h4,h5⟩:=hb
 rcases getElem?_set_some h3 with ⟨e2,e3,_⟩ | ⟨hne,h3⟩
 ·subst e3; simp [Ob.blk] at h5
 ·exact ⟨p,ob,l',h3,h4,h5⟩
theorem SW.renew (i k : Nat) {q off len cap sz : Nat} {xs : List (List V)} (hx : t[i]? = some (.arc q off len cap)) (hm : m[q]? = some (.arr true sz xs)) (h1 : off + len ≤ k) (h2 : k ≤ xs.length)
  (h : SW P code ⟨t.set i (.ar m.length off len),m.set q .dead ++ [.arr true sz (xs.take k)],g⟩ Q) : SW P code ⟨t,m,g⟩ Q:=by
 intro w0 E Zo gh a w ⟨β,M,hE,hF,hd,ht,hgh⟩
 obtain ⟨l,hβ,_⟩:=M.at_ hm
 obtain ⟨M1,hle,hlv⟩:=M.moveT (ob':=.arr true sz (xs.take k)) hm hβ rfl (fun c ⟨b1,b2,b3,b4⟩=>by
  refine ⟨by rw [List.length_take]; omega,b2,b3,b4.imp id ?_⟩
  rintro ⟨us,e,fr,k1,k2,k3,k4,k5⟩
  exact ⟨us,e,fr,k1,k2,k3,k4.take k,k5⟩)
 refine h w0 E Zo gh a w ⟨β ++ [l],M1,fun b hb=>hE b (hlv b hb),hF,hd,?_,hgh.mono hle⟩
 refine (ht.mono hle).set_same fun u hu=>?_
 have hv:=RVs_at ht hx u hu
 obtain ⟨_,l',hβ',_,g5,A',e1,g6⟩:=at_ar M (Agree.refl _) hm (RV_arc hv)
 rw [hβ] at hβ'; cases hβ'
 refine RV_ar (c:=cx w Zo (m.set q .dead ++ [.arr true sz (xs.take k)]) (β ++ [l])) (lv:=true) (sz:=sz) (xs:=xs.take k) (l:=l) ?_ ?_ (by rw [List.length_take]; omega) e1 g6
 ·show (m.set q .dead ++ [Ob.arr true sz (xs.take k)])[m.length]? = _
  rw [Zm (by simp)]; simp
 ·show (β ++ [l])[m.length]? = _
  rw [Zm (by rw [M.len]; exact Zg _),M.len]; simp
end
end Go.Pm
end
section
namespace Go.Pm
open Go.RowKit
mutual
theorem V.congr {p : Nat → Prop} {ρ σ : Nat → Nat} (hp : ∀ o,p o → ρ o = σ o) : ∀ x : V,Ref p x → x.ren ρ = x.ren σ
 | .ar q a b,h=>by simp only [V.ren]; rw [hp _ h]
 | .ptr q a,h=>by simp only [V.ren]; rw [hp _ h]
 | .eptr q a b,h=>by simp only [V.ren]; rw [hp _ h]
 | .map q,h=>by simp only [V.ren]; rw [hp _ h]
 | .arc q a b c,h=>by simp only [V.ren]; rw [hp _ h]
 | .sl sz xs,h=>by simp only [V.ren]; rw [renss_congr hp xs h]
 | .sptr sz xs i f,h=>by simp only [V.ren]; rw [renss_congr hp xs h]
 | .fptr cs f,h=>by simp only [V.ren]; rw [rens_congr hp cs h]
 | .agg cs,h=>by simp only [V.ren]; rw [rens_congr hp cs h]
 | .tup cs,h=>by simp only [V.ren]; rw [rens_congr hp cs h]
 | .fn f fs cs,h=>by simp only [V.ren]; rw [rens_congr hp fs h.1,rens_congr hp cs h.2]
 | .fmap ks vs,h=>by simp only [V.ren]; rw [rens_congr hp ks h.1,rens_congr hp vs h.2]
 | .junk,h=>rfl
 | .int k n,h=>rfl
 | .bool b,h=>rfl
 | .str s,h=>rfl
 | .nil,h=>rfl
 | .e0,h=>rfl
 | .np,h=>rfl
theorem rens_congr {p : Nat → Prop} {ρ σ : Nat → Nat} (hp : ∀ o,p o → ρ o = σ o) : ∀ xs : List V,Refs p xs → rens ρ xs = rens σ xs
 | [],h=>rfl
 | x :: xs,h=>by simp only [rens]; rw [V.congr hp x h.1,rens_congr hp xs h.2]
theorem renss_congr {p : Nat → Prop} {ρ σ : Nat → Nat} (hp : ∀ o,p o → ρ o = σ o) : ∀ xs : List (List V),Refss p xs → renss ρ xs = renss σ xs
 | [],h=>rfl
 | x :: xs,h=>by simp only [renss]; rw [rens_congr hp x h.1,renss_congr hp xs h.2]
end
mutual
theorem V.twice (ρ σ : Nat → Nat) : ∀ x : V,(x.ren ρ).ren σ = x.ren (fun o=>σ (ρ o))
 | .ar q a b=>by simp only [V.ren]
 | .ptr q a=>by simp only [V.ren]
 | .eptr q a b=>by simp only [V.ren]
 | .map q=>by simp only [V.ren]
 | .arc q a b c=>by simp only [V.ren]
 | .sl sz xs=>by simp only [V.ren]; rw [renss_twice ρ σ xs]
 | .sptr sz xs i f=>by simp only [V.ren]; rw [renss_twice ρ σ xs]
 | .fptr cs f=>by simp only [V.ren]; rw [rens_twice ρ σ cs]
 | .agg cs=>by simp only [V.ren]; rw [rens_twice ρ σ cs]
 | .tup cs=>by simp only [V.ren]; rw [rens_twice ρ σ cs]
 | .fn f fs cs=>by simp only [V.ren]; rw [rens_twice ρ σ fs,rens_twice ρ σ cs]
 | .fmap ks vs=>by simp only [V.ren]; rw [rens_twice ρ σ ks,rens_twice ρ σ vs]
 | .junk=>rfl
 | .int k n=>rfl
 | .bool b=>rfl
 | .str s=>rfl
 | .nil=>rfl
 | .e0=>rfl
 | .np=>rfl
theorem rens_twice (ρ σ : Nat → Nat) : ∀ xs : List V,rens σ (rens ρ xs) = rens (fun o=>σ (ρ o)) xs
 | []=>rfl
 | x :: xs=>by simp only [rens]; rw [V.twice ρ σ x,rens_twice ρ σ xs]
theorem renss_twice (ρ σ : Nat → Nat) : ∀ xs : List (List V),renss σ (renss ρ xs) = renss (fun o=>σ (ρ o)) xs
 | []=>rfl
 | x :: xs=>by simp only [renss]; rw [rens_twice ρ σ x,renss_twice ρ σ xs]
end
mutual
theorem Ref.ren {p : Nat → Prop} {ρ : Nat → Nat} : ∀ x : V,Ref (fun o=>p (ρ o)) x → Ref p (x.ren ρ)
 | .ar q a b,h=>h
 | .ptr q a,h=>h
 | .eptr q a b,h=>h
 | .map q,h=>h
 | .arc q a b c,h=>h
 | .sl sz xs,h=>Refss.ren xs h
 | .sptr sz xs i f,h=>Refss.ren xs h
 | .fptr cs f,h=>Refs.ren cs h
 | .agg cs,h=>Refs.ren cs h
 | .tup cs,h=>Refs.ren cs h
 | .fn f fs cs,h=>⟨Refs.ren fs h.1,Refs.ren cs h.2⟩
 | .fmap ks vs,h=>⟨Refs.ren ks h.1,Refs.ren vs h.2⟩
 | .junk,h=>trivial
 | .int k n,h=>trivial
 | .bool b,h=>trivial
 | .str s,h=>trivial
 | .nil,h=>trivial
 | .e0,h=>trivial
 | .np,h=>trivial
theorem Refs.ren {p : Nat → Prop} {ρ : Nat → Nat} : ∀ xs : List V,Refs (fun o=>p (ρ o)) xs → Refs p (rens ρ xs)
 | [],h=>trivial
 | x :: xs,h=>⟨Ref.ren x h.1,Refs.ren xs h.2⟩
theorem Refss.ren {p : Nat → Prop} {ρ : Nat → Nat} : ∀ xs : List (List V),Refss (fun o=>p (ρ o)) xs → Refss p (renss ρ xs)
 | [],h=>trivial
 | x :: xs,h=>⟨Refs.ren x h.1,Refss.ren xs h.2⟩
end
theorem Ob.refs_ren {p : Nat → Prop} {ρ : Nat → Nat} {ob : Ob} (h : ob.refs (fun o=>p (ρ o))) : (ob.ren ρ).refs p:=by
 cases ob with
 | hole=>trivial
 | dead=>trivial
 | box lv cs=>exact Refs.ren cs h
 | arr lv sz xs=>exact Refss.ren xs h
 | mp lv ks vs=>exact ⟨Refs.ren ks h.1,Refs.ren vs h.2⟩
theorem Ob.ren_congr {p : Nat → Prop} {ρ σ : Nat → Nat} (hp : ∀ o,p o → ρ o = σ o) {ob : Ob} (h : ob.refs p) : ob.ren ρ = ob.ren σ:=by
 cases ob with
 | hole=>rfl
 | dead=>rfl
 | box lv cs=>simp only [Ob.ren]; rw [rens_congr hp cs h]
 | arr lv sz xs=>simp only [Ob.ren]; rw [renss_congr hp xs h]
 | mp lv ks vs=>simp only [Ob.ren]; rw [rens_congr hp ks h.1,rens_congr hp vs h.2]
theorem Ob.ren_twice (ρ σ : Nat → Nat) (ob : Ob) : (ob.ren ρ).ren σ = ob.ren (fun o=>σ (ρ o)):=by
 cases ob with
 | hole=>rfl
 | dead=>rfl
 | box lv cs=>simp only [Ob.ren]; rw [rens_twice]
 | arr lv sz xs=>simp only [Ob.ren]; rw [renss_twice]
 | mp lv ks vs=>simp only [Ob.ren]; rw [rens_twice,rens_twice]
theorem Ob.ren_self {p : Nat → Prop} {ρ : Nat → Nat} (hp : ∀ o,p o → ρ o = o) {ob : Ob} (h : ob.refs p) : ob.ren ρ = ob:=by
 rw [Ob.ren_congr hp h]
 cases ob with
 | hole=>rfl
 | dead=>rfl
 | box lv cs=>simp only [Ob.ren]; rw [rens_id]
 | arr lv sz xs=>simp only [Ob.ren]; rw [renss_id]
 | mp lv ks vs=>simp only [Ob.ren]; rw [rens_id,rens_id]
def Ob.lives : Ob → Prop
 | .box lv _=>lv = true
 | .arr lv _ _=>lv = true
 | .mp lv _ _=>lv = true
 | _=>False
theorem seg_get {α : Type} (A B C : List α) (q : Nat) : (A ++ B ++ C)[q]? = if q < A.length then A[q]? else if q < A.length + B.length then B[q - A.length]? else C[q - (A.length + B.length)]?:=by
 split
 ·rename_i h
  rw [ZJ,Zk h]
 ·split
  ·rename_i h1 h2
   rw [ZJ,Zm (by omega),Zk (by omega)]
  ·rename_i h1 h2
   rw [Zm (by simp; omega),ZE]
def segK (a n : Nat) : List Nat:=(Zi n).map (a + ·)
theorem segK_mem {a n q : Nat} : q ∈ segK a n ↔ a ≤ q ∧ q < a + n:=by
 unfold segK
 rw [Zx]
 constructor
 ·rintro ⟨i,h,rfl⟩
  rw [List.mem_range] at h
  omega
 ·intro h
  exact ⟨q - a,List.mem_range.2 (by omega),by omega⟩
theorem segK_nodup (a n : Nat) : (segK a n).Nodup:=by
 unfold segK
 rw [List.nodup_iff_pairwise_ne,List.pairwise_map]
 refine List.Pairwise.imp ?_ List.pairwise_lt_range
 intro x y h
 omega
theorem segK_get {a n i : Nat} : (segK a n)[i]? = if i < n then some (a + i) else none:=by
 unfold segK
 rw [Ze]
 split
 ·rename_i h; rw [List.getElem?_range h]; rfl
 ·rename_i h; rw [Zl (by simp; omega)]; rfl
theorem segK_idx {a n q : Nat} (h : a ≤ q ∧ q < a + n) : idx (segK a n) q = q - a:=idx_of (segK_nodup a n) (by rw [segK_get,if_pos (by omega)]; congr 1; omega)
theorem segK_length (a n : Nat) : (segK a n).length = n:=by simp [segK]
section
variable {P : Program} {f : FuncId} {fs cs xs xs0 : List V} {m A B B' C : List Ob} {K KL : V → List Ob → Prop} {r : V}
theorem clY.seg (h : LCon P f xs0 B r B') (hl : B'.length = B.length) (hB : ∀ ob ∈ B,ob.refs (· < B.length) ∧ ob.alive = true) (hB' : ∀ ob ∈ B',ob.refs (· < B.length)) (hx : Refs (· < B.length) xs0) (hr : Ref (· < B.length) r)
  (em : m = A ++ B.map (Ob.ren (A.length + ·)) ++ C) (e : fs ++ xs ++ cs = rens (A.length + ·) xs0) (hcv : convs m (fs ++ xs ++ cs) = fs ++ xs ++ cs)
  (k : KL (r.ren (A.length + ·)) (A ++ B'.map (Ob.ren (A.length + ·)) ++ C)) : @clY P (.fn f fs cs) xs m ⟨K,KL⟩:=by
 have hBl : (B.map (Ob.ren (A.length + ·))).length = B.length:=Zr _
 have hm : ∀ q,m[q]? = if q < A.length then A[q]? else if q < A.length + B.length then (B[q - A.length]?).map (Ob.ren (A.length + ·)) else C[q - (A.length + B.length)]?:=fun q=>by
  rw [em,seg_get,hBl,Ze]
 have hml : m.length = A.length + B.length + C.length:=by rw [em]; simp; omega
 have hin : ∀ q,q ∈ segK A.length B.length → ∃ ob,B[q - A.length]? = some ob ∧ m[q]? = some (ob.ren (A.length + ·)) ∧ A.length ≤ q ∧ q < A.length + B.length:=fun q hq=>by
  obtain ⟨h1,h2⟩:=segK_mem.1 hq
  have h3 : q - A.length < B.length:=by omega
  refine ⟨B[q - A.length],Zb h3,?_,h1,h2⟩
  rw [hm,if_neg (by omega),if_pos h2,Zb h3]; rfl
 have hidx : ∀ o,o < B.length → idx (segK A.length B.length) (A.length + o) = o:=fun o ho=>by rw [segK_idx (by omega)]; omega
 have hsg : ∀ o,o < B.length → sg (segK A.length B.length) m.length o = A.length + o:=fun o ho=>by
  unfold sg
  rw [segK_get,if_pos ho]
 have hsel : sel (segK A.length B.length) m = B:=by
  apply Zn
  intro i
  rw [sel_get (fun q hq=>by obtain ⟨_,_,h1,_⟩:=hin q hq; exact (Zd.1 h1).1),segK_get]
  by_cases hi : i < B.length
  ·rw [if_pos hi,Option.bind_some,hm,if_neg (by omega),if_pos (by omega),show A.length + i - A.length = i by omega,Zb hi]
   simp only [Zf]
   rw [Ob.ren_twice,Ob.ren_self hidx (hB _ (List.getElem_mem hi)).1]
  ·rw [if_neg hi,Zl (by omega)]; rfl
 have hargs : rens (idx (segK A.length B.length)) (fs ++ xs ++ cs) = xs0:=by
  rw [e,rens_twice,rens_congr (σ:=fun o=>o) hidx xs0 hx,rens_id]
 refine .inr (.inl ⟨segK A.length B.length,[],r,B',h.ok,segK_nodup _ _,?_,?_,?_,?_,?_,?_,?_⟩)
 ·intro q hq
  obtain ⟨_,_,h1,_⟩:=hin q hq
  exact (Zd.1 h1).1
 ·intro q hq
  obtain ⟨ob,h0,h1,_⟩:=hin q hq
  rw [frzM_nil,Zc,h1]
  refine Ob.refs_ren ?_
  have h2:=(hB ob (Zh h0)).1
  cases ob with
  | hole=>trivial
  | dead=>trivial
  | box lv cs=>exact Refs.mono (fun o ho=>segK_mem.2 (by omega)) _ h2
  | arr lv sz xs=>exact Refss.mono (fun o ho=>segK_mem.2 (by omega)) _ h2
  | mp lv ks vs=>exact ⟨Refs.mono (fun o ho=>segK_mem.2 (by omega)) _ h2.1,Refs.mono (fun o ho=>segK_mem.2 (by omega)) _ h2.2⟩
 ·intro q hq
  obtain ⟨ob,h0,h1,_⟩:=hin q hq
  rw [frzM_nil,Zc,h1]
  have h2:=(hB ob (Zh h0)).2
  intro hd
  cases ob <;> simp [Ob.ren,Ob.alive] at hd h2
 ·rw [frzM_nil,hcv,e]
  exact Refs.ren _ (Refs.mono (fun o ho=>segK_mem.2 (by omega)) _ hx)
 ·rw [segK_length,hl]; exact Zg _
 ·rw [frzM_nil,hcv,hargs,hsel]
  exact h.c
 ·rw [frzM_nil,V.congr hsg r hr]
  have : bk m (segK A.length B.length) (B'.map (Ob.ren (sg (segK A.length B.length) m.length))) = A ++ B'.map (Ob.ren (A.length + ·)) ++ C:=by
   apply Zn
   intro q
   rw [bk_get (segK_nodup _ _) (by rw [segK_length,Zr,hl]; exact Zg _),seg_get,Zr,hl,segK_length]
   have hmap : ∀ i,(B'.map (Ob.ren (sg (segK A.length B.length) m.length)))[i]? = (B'.map (Ob.ren (A.length + ·)))[i]?:=fun i=>by
    rw [Ze,Ze]
    cases hb : B'[i]? with
    | none=>rfl
    | some ob=>simp only [Zf]; rw [Ob.ren_congr hsg (hB' ob (Zh hb))]
   by_cases h1 : q < A.length
   ·rw [if_pos (by omega),if_neg (fun hq=>by have:=segK_mem.1 hq; omega),if_pos h1,hm,if_pos h1]
   ·by_cases h2 : q < A.length + B.length
    ·rw [if_pos (by omega),if_pos (segK_mem.2 (by omega)),if_neg h1,if_pos h2,segK_idx (by omega),hmap]
    ·rw [if_neg h1,if_neg h2]
     by_cases h3 : q < m.length
     ·rw [if_pos h3,if_neg (fun hq=>by have:=segK_mem.1 hq; omega),hm,if_neg h1,if_neg h2]
     ·rw [if_neg h3,Zl (by simp; omega),Zl (by omega)]
  rw [this]
  exact k
end
def jk : List V → List V → Prop
 | [],ys=>ys = []
 | x :: xs,y :: ys=>(y = .junk ∨ y = x) ∧ jk xs ys
 | _ :: _,[]=>False
theorem jk_sound {c : Cx} : ∀ {xs ys : List V} {us : List Value},jk xs ys → RVs c xs us → RVs c ys us
 | [],ys,us,k,r=>by rw [show ys = [] from k]; exact r
 | x :: xs,y :: ys,us,⟨k1,k2⟩,⟨u,us',e,r1,r2⟩=>by
   refine ⟨u,us',e,?_,jk_sound k2 r2⟩
   rcases k1 with rfl | rfl
   ·trivial
   ·exact r1
 | x :: xs,[],us,k,r=>k.elim
def Jk (st st' : St) : Prop:=jk st.t st'.t ∧ st'.m = st.m ∧ jk st.g st'.g
theorem Jk.rel {st st' : St} {w0 : World} {E Zo : Nat → Prop} {gh : List Value} {a : Act} {w : World} (h : Jk st st') (r : Rel w0 E Zo gh st a w) : Rel w0 E Zo gh st' a w:=by
 obtain ⟨h4,h5,h6⟩:=h
 obtain ⟨β,M,r1,r2,r3,r4,r5⟩:=r
 obtain ⟨t',m',g'⟩:=st'
 simp only at h4 h5 h6
 subst h5
 exact ⟨β,M,r1,r2,r3,jk_sound h4 r4,jk_sound h6 r5⟩
def AgainJ {A : Type} (F : A → St) (μ : A → Nat) (I : A → Prop) (a : A) (st' : St) : Prop:=∃ a',I a' ∧ μ a' < μ a ∧ Jk st' (F a')
@[congr] theorem AgainJ_congr {A : Type} {F : A → St} {μ : A → Nat} {I : A → Prop} {a : A} {st st' : St} (h : st = st') : AgainJ F μ I a st = AgainJ F μ I a st':=by rw [h]
theorem AgainJ.mk {A : Type} {F : A → St} {μ : A → Nat} {I : A → Prop} {a : A} {st' : St} (a' : A) (h1 : I a') (h2 : μ a' < μ a) (h3 : Jk st' (F a')) : AgainJ F μ I a st':=⟨a',h1,h2,h3⟩
section
variable {P : Program} {st : St} {Q : Exit → St → Prop}
theorem SW.jk {c : Code} {st' : St} (h : Jk st st') (k : SW P c st' Q) : SW P c st Q:=fun w0 E Zo gh a w r=>k w0 E Zo gh a w (h.rel r)
theorem SW.whileJ {c : Code} {A : Type} (F : A → St) (μ : A → Nat) (I : A → Prop) (a0 : A) (hI : I a0) (h0 : Jk st (F a0))
  (round : ∀ a,I a → SW P c (F a) (andThen (AgainJ F μ I a) Q)) : SW P (.loop c) st Q:=by
 refine SW.jk h0 (SW.loop (fun n st=>∃ a,μ a = n ∧ I a ∧ ∃ st1,st = st1 ∧ st1 = F a) (μ a0) ⟨a0,rfl,hI,_,rfl,rfl⟩ ?_)
 rintro n _ ⟨a,rfl,hIa,_,rfl,rfl⟩
 intro w0 E Zo gh ac w r
 refine wp_mono (round a hIa w0 E Zo gh ac w r) ?_
 rintro e a' w' ⟨st',q,r'⟩
 cases e with
 | normal =>
  obtain ⟨a2,h1,h2,h3⟩:=q
  exact ⟨F a2,⟨μ a2,h2,a2,rfl,h1,_,rfl,rfl⟩,h3.rel r'⟩
 | exit id=>exact ⟨st',q,r'⟩
 | goto l=>exact ⟨st',q,r'⟩
 | ret=>exact ⟨st',q,r'⟩
 | panic ch=>exact ⟨st',q,r'⟩
 | outgrown=>exact ⟨st',q,r'⟩
end
theorem jk_r8 {a0 a1 a2 a3 a4 a5 a6 a7 b0 b1 b2 b3 b4 b5 b6 b7 : V} {l l' : List V} : jk (r8 a0 a1 a2 a3 a4 a5 a6 a7 l) (r8 b0 b1 b2 b3 b4 b5 b6 b7 l') = ((b0 = .junk ∨ b0 = a0) ∧ (b1 = .junk ∨ b1 = a1) ∧ (b2 = .junk ∨ b2 = a2) ∧ (b3 = .junk ∨ b3 = a3) ∧ (b4 = .junk ∨ b4 = a4) ∧ (b5 = .junk ∨ b5 = a5) ∧ (b6 = .junk ∨ b6 = a6) ∧ (b7 = .junk ∨ b7 = a7) ∧ jk l l'):=by
 simp only [r8,jk,and_assoc]
theorem jk_nil : jk [] [] = True:=by simp [jk]
theorem jk_cons {x y : V} {xs ys : List V} : jk (x :: xs) (y :: ys) = ((y = .junk ∨ y = x) ∧ jk xs ys):=nr rfl
theorem Jk_eq {t t' g g' : List V} {m m' : List Ob} : Jk ⟨t,m,g⟩ ⟨t',m',g'⟩ = (jk t t' ∧ m' = m ∧ jk g g'):=nr rfl
attribute [mvcgen_simp] jk_r8 jk_nil jk_cons Jk_eq true_or or_true
def finJ (P : Program) (rs : List ResultVar) (m0 : List Ob) (r : V) (m' : List Ob) (e : Exit) (st : St) : Prop :=
 isEnd e ∧ resV P st rs [] (fun xs=>packV xs = r ∧ st.m = m' ∧ st.g = plc 0 m0)
theorem finJ_ret {P : Program} {st : St} {rs : List ResultVar} {m0 : List Ob} {r : V} {m' : List Ob} : finJ P rs m0 r m' .ret st = resV P st rs [] (fun xs=>packV xs = r ∧ st.m = m' ∧ st.g = plc 0 m0):=by simp [finJ,isEnd]
attribute [method_specs_simp ↓] finJ_ret
theorem LCon.ofJS {P : Program} {f : FuncId} {fn : Func} {c : Code} {args : List V} {m0 : List Ob} {r : V} {m' : List Ob} {rs : List ResultVar} {n : Nat} (hf : P.funcs[f]? = some fn) (hb : fn.body = some c) (hcall : ∀ (args : Array Value) (w : World),(callFunc f args).run P w = .ok (.enter f args) w)
  (hr : fn.results = rs.toArray) (hn : fn.ntmps = n)
  (h : SW P c ⟨mk8 (args ++ Za (n - args.length) .junk),m0,plc 0 m0⟩ (finJ P rs m0 r m')) : LCon P f args m0 r m':=by
 have hname:=name_of_call hf hcall
 subst hn
 have hr : fn.results.toList = rs:=by rw [hr]
 subst hr
 refine ⟨?_,?_⟩
 ·unfold bodyOK
  rw [hf]
  simp [hb,hname]
 intro w Zo β us M hargs
 have hlen:=hargs.length
 refine calls_of_wp hf hb ?_
 have hrep : ∀ n,RVs (cx w Zo m0 β) (Za n .junk) (Za n undef):=by
  intro n
  induction n with
  | zero=>rfl
  | succ n ih=>exact ⟨undef,Za n undef,rfl,trivial,ih⟩
 refine wp_mono (h w (liveAt m0 β) Zo (plv m0 β) _ w ⟨β,M,fun b hb=>.inl hb,Frame.refl _ w,rfl,?_,plc_in m0 β 0 M.len (fun i ob hi=>by rw [Zj]; exact hi) (fun i l hi=>by rw [Zj]; exact hi)⟩) ?_
 ·have:=hargs.append (hrep (fn.ntmps - args.length))
  simpa [hlen,mk8] using this
 ·rintro e a' w' ⟨st',⟨he,hk⟩,β1,M1,h1,h2,h3,h4,h5⟩
  obtain ⟨xs,vs,q,q3,q4⟩:=res_sound (P:=P) M1 h4 fn.results.toList [] _ [] rfl hk
  have hres : (results fn a'.tmps).run P w' = .ok (if h : vs.toArray.size = 1 then vs.toArray[0] else .tuple vs.toArray) w':=by
   rw [results_eq,Zw]
   simp [Sem.run_bind,q4]
  rw [Zq] at q3
  have hv:=pack_sound q3
  generalize hvv : (if h : vs.toArray.size = 1 then vs.toArray[0] else Value.tuple vs.toArray) = v at hres hv
  suffices key : bodyPost P fn (fun e w'=>∃ v β',e = .returned v ∧ Frame (liveAt m0 β) w w' ∧ Mem w' Zo m' β' ∧ RVs (cx w' Zo m' β') (plc 0 m0) (plv m0 β) ∧ RV (cx w' Zo m' β') r v ∧ ∀ b,liveAt m' β' b → liveAt m0 β b ∨ w.heap.size ≤ b) .ret a' w' by
   cases e <;> first | exact he.elim | exact key
  obtain ⟨e1,e2,e3⟩:=q
  rw [← e2,← e3,← e1]
  exact ⟨h3,_,hres,v,β1,rfl,h2,M1,h5,hv,h1⟩
theorem LCon.ofJ {P : Program} {f : FuncId} {fn : Func} {c : Code} {args : List V} {m0 : List Ob} {r : V} {m' : List Ob} {rs : List ResultVar} {n : Nat} (hf : P.funcs[f]? = some fn) (hb : fn.body = some c) (hcall : ∀ (args : Array Value) (w : World),(callFunc f args).run P w = .ok (.enter f args) w)
  (hr : fn.results = rs.toArray) (hn : fn.ntmps = n)
  (h : CW P c ⟨mk8 (args ++ Za (n - args.length) .junk),m0,plc 0 m0⟩ (finJ P rs m0 r m')) : LCon P f args m0 r m':=LCon.ofJS hf hb hcall hr hn (CW.sound h)
end Go.Pm
end
end
