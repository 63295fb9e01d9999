/- Live hubs: made and marked. No conditions but lengths and bounds of numbers. Live hubs as wholes: made, marked, read. No conditions but lengths and bounds of numbers. The law of RoomsOf: for every hub and user. No conditions but the sizes that an input has. The type of a hub, as the arguments are read. No conditions. Closed facts of the whole program that every row asks, for a program with maps whose keys are structs. No conditions. -/
import Derived.Test.YtiafnciiieofmaaGreatRows
import Derived.WalkKit
import Derived.ProofKit
import Derived.OpenShut
import Derived.ShutString
import Derived.ChangeOld
import Derived.Below
import Derived.SizedLaws
import Derived.Test.YtiafnciiieofmaaGreatO6
set_option linter.unusedSimpArgs false
set_option linter.unusedVariables false
set_option maxRecDepth 10000
set_option maxHeartbeats 4000000
open List renaming append_assoc → Za, cons_append → Zb, nil_append → Zc, getElem?_append_right → Ze, append_nil → Zf, length_cons → Zi, mem_append → Zj, length_map → Zl, length_append → Zm, mem_cons → Zp, replicate → Zq, getElem?_eq_some_iff → Zr, take_of_length_le → Zu, length_nil → Zv, map_append → Zw, getD_eq_getElem?_getD → Zx, set_append_right → Zy, getElem?_cons_succ → Zz, getElem?_eq_getElem → ZB, getElem?_map → ZC, set_set → ZF, mem_singleton → ZG, getElem?_append_left → ZH, replicate_succ → ZI, set_cons_zero → ZJ, take_add_one → ZK
open Bool renaming not_true → Zd
open Nat renaming le_refl → Zg, sub_self → Zh, add_assoc → Zn, add_zero → Zo, add_sub_cancel_left → Zs, lt_succ_self → Zt, zero_le → ZA, sub_lt_sub_left → ZD, zero_add → ZE
open Int renaming ofNat_lt → Zk
open Option renaming toList_some → ZL
section
namespace Go.Proofs.YtiafnciiieofmaaGreat
open Go.Pm
open Go.Gm (Ev Gr)
def gLen (g : Gr) : Nat:=g.events.length + 1 + (g.parked.length + 1)
def lenGs : List Gr → Nat
 | []=>0
 | g :: l=>gLen g + lenGs l
def rowsGr : Nat → List Gr → List (List V)
 | _,[]=>[]
 | q,g :: l=>grV q g :: rowsGr (q + gLen g) l
def obGsb : Nat → List Gr → List Ob
 | _,[]=>[]
 | b,g :: l=>obGb b g ++ obGsb (b + gLen g) l
def obGs (b : Nat) (l : List Gr) : List Ob:=.arr true 3 (rowsGr (b + 1) l) :: obGsb (b + 1) l
theorem lenGs_app : ∀ l l' : List Gr,lenGs (l ++ l') = lenGs l + lenGs l'
 | [],l'=>by simp [lenGs]
 | g :: l,l'=>by simp only [Zb,lenGs,lenGs_app l l']; omega
theorem rowsGr_len : ∀ (q : Nat) (l : List Gr),(rowsGr q l).length = l.length
 | _,[]=>rfl
 | q,g :: l=>by simp [rowsGr,rowsGr_len _ l]
theorem rowsGr_app : ∀ (q : Nat) (l l' : List Gr),rowsGr q (l ++ l') = rowsGr q l ++ rowsGr (q + lenGs l) l'
 | _,[],l'=>rfl
 | q,g :: l,l'=>by
   simp only [Zb,rowsGr,rowsGr_app _ l l',lenGs]
   rw [show q + gLen g + lenGs l = q + (gLen g + lenGs l) by omega]
theorem obGsb_len : ∀ (b : Nat) (l : List Gr),(obGsb b l).length = lenGs l
 | _,[]=>rfl
 | b,g :: l=>by rw [obGsb,Zm,obGb_len,obGsb_len _ l]; rfl
theorem obGsb_app : ∀ (b : Nat) (l l' : List Gr),obGsb b (l ++ l') = obGsb b l ++ obGsb (b + lenGs l) l'
 | _,[],l'=>rfl
 | b,g :: l,l'=>by
   simp only [Zb,obGsb,obGsb_app _ l l',lenGs,Za]
   rw [show b + gLen g + lenGs l = b + (gLen g + lenGs l) by omega]
theorem obGs_len (b : Nat) (l : List Gr) : (obGs b l).length = lenGs l + 1:=by rw [obGs,Zi,obGsb_len]
theorem rowsGr_ren (b : Nat) : ∀ (q : Nat) (l : List Gr),renss (b + ·) (rowsGr q l) = rowsGr (b + q) l
 | _,[]=>rfl
 | q,g :: l=>by
   simp only [rowsGr,renss,rowsGr_ren b _ l]
   rw [← Zn b q (gLen g)]
   simp only [grV,rens,V.ren,Zn]
theorem obGb_ren (b c : Nat) (g : Gr) : (obGb c g).map (Ob.ren (b + ·)) = obGb (b + c) g:=by
 unfold obGb
 rw [Zw,obEb_ren,obEb_ren,Zn]
theorem obGsb_ren (b : Nat) : ∀ (c : Nat) (l : List Gr),(obGsb c l).map (Ob.ren (b + ·)) = obGsb (b + c) l
 | _,[]=>rfl
 | c,g :: l=>by rw [obGsb,obGsb,Zw,obGb_ren,obGsb_ren b _ l,Zn]
theorem obGs_ren (b c : Nat) (l : List Gr) : (obGs c l).map (Ob.ren (b + ·)) = obGs (b + c) l:=by
 unfold obGs
 rw [List.map_cons,obGsb_ren]
 simp only [Ob.ren,rowsGr_ren]
 rfl
theorem rowsGr_refs {ok : Nat → Prop} : ∀ (q : Nat) (l : List Gr),(∀ i,q ≤ i → i < q + lenGs l → ok i) → Refss ok (rowsGr q l)
 | _,[],_=>trivial
 | q,g :: l,h=>by
   have hg : gLen g = g.events.length + 1 + (g.parked.length + 1):=rfl
   simp only [lenGs] at h
   exact ⟨⟨trivial,h q (Zg _) (by omega),h _ (by omega) (by omega),trivial⟩,rowsGr_refs _ l fun i h1 h2=>h i (by omega) (by omega)⟩
theorem obGb_refs {n b : Nat} (g : Gr) (h : b + gLen g ≤ n) : ∀ ob ∈ obGb b g,ob.refs (· < n):=fun ob ho=>by
 have hg : gLen g = g.events.length + 1 + (g.parked.length + 1):=rfl
 rcases Zj.1 ho with ho | ho
 ·exact obEb_refs _ (by omega) ob ho
 ·exact obEb_refs _ (by omega) ob ho
theorem obGsb_refs {n : Nat} : ∀ (b : Nat) (l : List Gr),b + lenGs l ≤ n → ∀ ob ∈ obGsb b l,ob.refs (· < n)
 | _,[],_,ob,ho=>by simp [obGsb] at ho
 | b,g :: l,h,ob,ho=>by
   simp only [lenGs] at h
   rcases Zj.1 ho with ho | ho
   ·exact obGb_refs g (by omega) ob ho
   ·exact obGsb_refs _ l (by omega) ob ho
theorem obGs_refs {n b : Nat} (l : List Gr) (h : b + 1 + lenGs l ≤ n) : ∀ ob ∈ obGs b l,ob.refs (· < n):=fun ob ho=>by
 rcases Zp.1 ho with rfl | ho
 ·exact rowsGr_refs _ l fun i h1 h2=>by omega
 ·exact obGsb_refs _ l h ob ho
theorem obEb_alive (b : Nat) (l : List Ev) : ∀ ob ∈ obEb b l,ob.alive = true:=fun ob ho=>by
 rcases Zp.1 ho with rfl | ho
 ·rfl
 ·obtain ⟨e,_,rfl⟩:=List.mem_map.1 ho
  rfl
theorem obGsb_alive : ∀ (b : Nat) (l : List Gr),∀ ob ∈ obGsb b l,ob.alive = true
 | _,[],ob,ho=>by simp [obGsb] at ho
 | b,g :: l,ob,ho=>by
   rcases Zj.1 ho with ho | ho
   ·rcases Zj.1 ho with ho | ho
    ·exact obEb_alive _ _ ob ho
    ·exact obEb_alive _ _ ob ho
   ·exact obGsb_alive _ l ob ho
theorem obGs_alive (b : Nat) (l : List Gr) : ∀ ob ∈ obGs b l,ob.alive = true:=fun ob ho=>by
 rcases Zp.1 ho with rfl | ho
 ·rfl
 ·exact obGsb_alive _ l ob ho
theorem obGsb_flat : ∀ (b : Nat) (l : List Gr),∀ ob ∈ obGsb b l,ob.flat
 | _,[],ob,ho=>by simp [obGsb] at ho
 | b,g :: l,ob,ho=>by
   rcases Zj.1 ho with ho | ho
   ·rcases Zj.1 ho with ho | ho
    ·exact obEb_flat _ _ ob ho
    ·exact obEb_flat _ _ ob ho
   ·exact obGsb_flat _ l ob ho
theorem rowsGr_flat : ∀ (q : Nat) (l : List Gr),Flatss (rowsGr q l)
 | _,[]=>trivial
 | q,g :: l=>⟨⟨trivial,trivial,trivial,trivial⟩,rowsGr_flat _ l⟩
theorem obGs_flat (b : Nat) (l : List Gr) : ∀ ob ∈ obGs b l,ob.flat:=fun ob ho=>by
 rcases Zp.1 ho with rfl | ho
 ·exact ⟨rfl,rowsGr_flat _ l⟩
 ·exact obGsb_flat _ l ob ho
def mGrR (k : Int) (g : Gr) : Gr:=⟨k,mEvs (k + 1) g.events,mEvs (k + 1 + wM g.events) g.parked⟩
def wR (g : Gr) : Int:=1 + wM g.events + wM g.parked
def wRs : List Gr → Int
 | []=>0
 | g :: l=>wR g + wRs l
def mGs : Int → List Gr → List Gr
 | _,[]=>[]
 | k,g :: l=>mGrR k g :: mGs (k + wR g) l
theorem wR_nn (g : Gr) : 0 ≤ wR g:=by have:=wM_nn g.events; have:=wM_nn g.parked; unfold wR; omega
theorem wRs_nn : ∀ l : List Gr,0 ≤ wRs l
 | []=>Int.le_refl _
 | g :: l=>by have:=wR_nn g; have:=wRs_nn l; unfold wRs; omega
theorem wRs_le : ∀ l : List Gr,wRs l ≤ 8 * (l.length + wGs l)
 | []=>by simp [wRs,wGs]
 | g :: l=>by
   have:=wRs_le l
   have b1:=wM_le g.events
   have b2:=wM_le g.parked
   have hwG : wG g = (g.events.length + wEs g.events) + (g.parked.length + wEs g.parked):=rfl
   simp only [wRs,wR,wGs,Zi]
   omega
theorem mGrR_len (k : Int) (g : Gr) : gLen (mGrR k g) = gLen g:=by simp only [gLen,mGrR,mEvs_len]
theorem mGs_lenGs : ∀ (k : Int) (l : List Gr),lenGs (mGs k l) = lenGs l
 | _,[]=>rfl
 | k,g :: l=>by rw [mGs,lenGs,lenGs,mGrR_len,mGs_lenGs _ l]
def rowsGL (xs : List Gr) (k : Nat) : List (List V):=rowsGr 1 (xs.take k) ++ Zq (xs.length - k) zGr
theorem rowsGL_len {xs : List Gr} {k : Nat} (hk : k ≤ xs.length) : (rowsGL xs k).length = xs.length:=by
 simp [rowsGL,rowsGr_len,Nat.min_eq_left hk]; omega
theorem rowsGL_zero (xs : List Gr) : rowsGL xs 0 = Zq xs.length zGr:=by simp [rowsGL,rowsGr]
theorem rowsGL_all (xs : List Gr) : rowsGL xs xs.length = rowsGr 1 xs:=by simp [rowsGL]
theorem rowsGL_get {xs : List Gr} {k : Nat} (hk : k < xs.length) : (rowsGL xs k).getD k [] = zGr:=by
 unfold rowsGL
 rw [Zx,Ze (by simp [rowsGr_len]; omega),rowsGr_len,List.length_take,show k - min k xs.length = 0 by omega,show xs.length - k = (xs.length - (k + 1)) + 1 by omega,ZI]
 rfl
theorem rowsGL_set {xs : List Gr} {k : Nat} {x : Gr} (hx : xs[k]? = some x) : (rowsGL xs k).set k (grV (1 + lenGs (xs.take k)) x) = rowsGL xs (k + 1):=by
 have hk:=(Zr.1 hx).1
 unfold rowsGL
 rw [Zy _ _ (by simp [rowsGr_len]; omega),rowsGr_len,List.length_take,show k - min k xs.length = 0 by omega,show xs.length - k = (xs.length - (k + 1)) + 1 by omega,ZI,ZJ,ZK,hx,ZL,rowsGr_app,Za]
 simp [rowsGr]
theorem obG_at1 (o : Ob) (L : List Ob) (n b : Nat) (x : Gr) (h : L.length + 1 = n) : (o :: (L ++ obGb b x))[n]? = some (.arr true 9 (rowsEv (b + 1) x.events)):=by
 subst h
 rw [Zz,Ze (Zg _),Zh]; rfl
theorem obG_at2 (o : Ob) (L : List Ob) (n b : Nat) (x : Gr) (h : L.length + 1 = n) : (o :: (L ++ obGb b x))[n + (x.events.length + 1)]? = some (.arr true 9 (rowsEv (b + (x.events.length + 1) + 1) x.parked)):=by
 subst h
 rw [show L.length + 1 + (x.events.length + 1) = (L.length + (x.events.length + 1)) + 1 by omega,Zz,Ze (by omega),Zs]
 have:=obGb_at x b []
 rwa [Zf] at this
section
variable {P : Program} [Is P]
theorem n_toGraphS (xs : List Gr) (hx : GrsOK xs) : LCon P 38 [.sl 3 (xs.map encGr)] [] (.ar 0 0 xs.length) (obGs 0 xs):=by
 have hx1:=hx.1
 refine LCon.ofJ (n:=23) (rs:=[.tmp 2]) (Is.fn Tryz.func38) rfl (Is.call Tryz.call38) Tryz.results38 Tryz.ntmps38 ?_
 simp only [method_specs_simp,seval]
 refine ⟨by omega,by omega,by omega,?_⟩
 refine SW.whileJ (A:=Nat) (fun k=>⟨pad 23 [.sl 3 (xs.map encGr),.junk,.nil,.ar 0 0 xs.length,.int .i64 k],.arr true 3 (rowsGL xs k) :: obGsb 1 (xs.take k),[]⟩) (fun k=>xs.length - k) (fun k=>k ≤ xs.length) 0 (ZA _) ?_ ?_
 ·have ez : Zq xs.length [V.int .i64 0,.nil,.nil] = rowsGL xs 0:=(rowsGL_zero _).symm
  rw [ez]
  simp only [mvcgen_simp,method_specs_simp,seval]
  rfl
 ·intro k hk
  refine CW.sound ?_
  simp only [method_specs_simp,seval]
  refine gB_split (fun h=>?_) (fun h=>?_)
  ·simp only [decide_eq_true_eq,Zk] at h
   have hxk : xs[k]? = some xs[k]:=ZB h
   have hOK:=hx.2 _ (List.getElem_mem h)
   generalize xs[k] = x at hxk hOK
   simp only [ZC,hxk,method_specs_simp,seval]
   refine ⟨by omega,by omega,?_⟩
   have hl : (obGsb 1 (xs.take k)).length = lenGs (xs.take k):=obGsb_len _ _
   refine clY.newD 0 (n_toGraph x hOK) (dcv_zero _ _) (by simp only [method_specs_simp,encGr]) (grV_flat 0 x) (obG_flat x) ?_
   rw [obG_ren,Zi,hl]
   have e0 : lenGs (xs.take k) + 1 = 1 + lenGs (xs.take k):=Nat.add_comm _ _
   simp only [method_specs_simp,seval,grV,e0]
   have e1 : (rowsGL xs k).set k (V.int IntKind.i64 x.room :: V.ar (1 + lenGs (xs.take k)) 0 x.events.length :: V.ar (1 + lenGs (xs.take k) + (x.events.length + 1)) 0 x.parked.length :: List.drop 3 ((rowsGL xs k).getD k [])) = rowsGL xs (k + 1):=by
    rw [rowsGL_get h]; exact rowsGL_set hxk
   have hb : (obGsb 1 (xs.take k) ++ obGb (1 + lenGs (xs.take k)) x) = obGsb 1 (xs.take (k + 1)):=by
    rw [ZK,hxk,ZL,obGsb_app]
    simp only [obGsb,Zf]
   have q1:=obG_at1 (.arr true 3 (rowsGL xs k)) (obGsb 1 (xs.take k)) (1 + lenGs (xs.take k)) (1 + lenGs (xs.take k)) x (by rw [hl]; omega)
   have q2:=obG_at2 (.arr true 3 (rowsGL xs k)) (obGsb 1 (xs.take k)) (1 + lenGs (xs.take k)) (1 + lenGs (xs.take k)) x (by rw [hl]; omega)
   refine ⟨by omega,by omega,by rw [rowsGL_len hk]; exact h,by rw [q1,q2]; rfl,?_⟩
   rw [wrap_id (by omega) (by omega)]
   refine AgainJ.mk (k + 1) h (ZD h (Zt _)) ?_
   rw [e1,hb]
   simp only [mvcgen_simp,method_specs_simp,seval]
  ·simp only [decide_eq_false_iff_not,Zd,Zk] at h
   have hi : k = xs.length:=by omega
   subst hi
   rw [rowsGL_all,Zu (Zg _)]
   trivial
theorem n_markGraphS (xs : List Gr) (k : Int) (h0 : 0 ≤ k) (h1 : k < 2 ^ 56) (hx : GrsOK xs) (hw : k + wRs xs < 2 ^ 56) : LCon P 53 [.ar 0 0 xs.length,.int .i64 k] (obGs 0 xs) (.int .i64 (k + wRs xs)) (obGs 0 (mGs k xs)):=by
 refine LCon.ofJ (n:=34) (rs:=[.tmp 4]) (Is.fn Tryz.func53) rfl (Is.call Tryz.call53) Tryz.results53 Tryz.ntmps53 ?_
 simp only [method_specs_simp,seval]
 generalize hgg : plc 0 (obGs 0 xs) = gg
 have hx1:=hx.1
 refine SW.whileJ (A:=List Gr × List Gr × Int) (fun a=>⟨pad 34 [.ar 0 0 xs.length,.int .i64 a.2.2,.junk,.junk,.junk,.int .i64 a.1.length],.arr true 3 (rowsGr 1 (a.1 ++ a.2.1)) :: (obGsb 1 a.1 ++ obGsb (1 + lenGs a.1) a.2.1),gg⟩) (fun a=>a.2.1.length)
   (fun a=>a.1.length + a.2.1.length = xs.length ∧ mGs k xs = a.1 ++ mGs a.2.2 a.2.1 ∧ a.2.2 + wRs a.2.1 = k + wRs xs ∧ k ≤ a.2.2 ∧ (∀ g ∈ a.2.1,GrOK g)) ([],xs,k) ⟨ZE _,rfl,rfl,Int.le_refl _,hx.2⟩ ?_ ?_
 ·simp only [mvcgen_simp,method_specs_simp,seval]
  trivial
 ·rintro ⟨ys,zs,z⟩ ⟨hl,hm,hz,hkz,hok⟩
  simp only at hl hm hz hkz hok
  have hrl : (rowsGr 1 (ys ++ zs)).length = xs.length:=by rw [rowsGr_len,Zm,hl]
  refine CW.sound ?_
  simp only [method_specs_simp,seval,hrl]
  refine gB_split (fun h=>?_) (fun h=>?_)
  ·simp only [decide_eq_true_eq,Zk] at h
   cases zs with
   | nil=>simp only [Zv] at hl; omega
   | cons x zs =>
    have hOK:=hok x List.mem_cons_self
    simp only [wRs,Zi] at hz hl
    have nn:=wRs_nn zs
    have n1:=wM_nn x.events
    have n2:=wM_nn x.parked
    have hwr : wR x = 1 + wM x.events + wM x.parked:=rfl
    obtain ⟨b,hb⟩ : ∃ b,b = 1 + lenGs ys:=⟨_,rfl⟩
    have hl1 : ys.length < (rowsGr 1 (ys ++ x :: zs)).length:=by omega
    have eg : (rowsGr 1 (ys ++ x :: zs)).getD ys.length [] = grV b x:=by
     rw [Zx,rowsGr_app,Ze (by rw [rowsGr_len]; exact Zg _),rowsGr_len,Zh,← hb]; rfl
    have est : (rowsGr 1 (ys ++ x :: zs)).set ys.length (grV b (mGrR z x)) = rowsGr 1 (ys ++ [mGrR z x] ++ zs):=by
     rw [Za,rowsGr_app,rowsGr_app,Zy _ _ (by rw [rowsGr_len]; exact Zg _),rowsGr_len,Zh,← hb]
     simp only [rowsGr,List.singleton_append,ZJ,mGrR_len]
    generalize hrr : rowsGr 1 (ys ++ x :: zs) = rr at *
    have w1 : IntKind.i64.wrap (z + 1) = z + 1:=wrap_id (by omega) (by omega)
    have w9 : IntKind.i64.wrap ((ys.length : Int) + 1) = ((ys.length + 1 : Nat) : Int):=by rw [wrap_id (by omega) (by omega)]; rfl
    have hgs : ∀ v : List V,(rr.set ys.length v)[ys.length]? = some v:=fun v=>List.getElem?_set_self hl1
    have ho : obGsb 1 ys ++ obGsb b (x :: zs) = obGsb 1 ys ++ obEb b x.events ++ (obEb (b + (x.events.length + 1)) x.parked ++ obGsb (b + gLen x) zs):=by
     simp only [obGsb,obGb,Za]
    rw [← hb,ho]
    have hA : ∀ o : Ob,(o :: obGsb 1 ys).length = b:=fun o=>by rw [Zi,obGsb_len]; omega
    simp only [method_specs_simp,seval,w1,eg,grV,ZF,getD_set' hl1,List.length_set,hrl,hgs]
    have i2 : ys.length < xs.length:=h
    refine ⟨by omega,by omega,h,by omega,by omega,?_⟩
    have row1 : ∀ (v : List (List V)) (L : List Ob),(Ob.arr true 3 v :: (obGsb 1 ys ++ obEb b x.events ++ L))[b]? = some (.arr true 9 (rowsEv (b + 1) x.events)):=fun v L=>by
     rw [Za,← Zb,Ze (by rw [hA]; exact Zg _),hA,Zh]; rfl
    refine clY.seg (A:=.arr true 3 (rr.set ys.length [V.int .i64 z,V.ar b 0 x.events.length,V.ar (b + (x.events.length + 1)) 0 x.parked.length]) :: obGsb 1 ys) (B:=obE x.events) (B':=obE (mEvs (z + 1) x.events)) (C:=obEb (b + (x.events.length + 1)) x.parked ++ obGsb (b + gLen x) zs) (n_markEventS x.events (z + 1) (by omega) (by omega) hOK.1 (by omega)) ?_ ?_ ?_ ?_ trivial ?_ ?_ ?_ ?_
    ·rw [obE_len,obE_len,mEvs_len]
    ·exact fun ob ho=>⟨obE_refs _ (by rw [obE_len]; omega) ob ho,obE_alive _ ob ho⟩
    ·exact obE_refs _ (by rw [obE_len,mEvs_len]; omega)
    ·rw [obE_len]; exact ⟨by show 0 < _; omega,trivial,trivial⟩
    ·rw [hA,obE_ren]; rfl
    ·simp only [rens,V.ren,hA,Zo,Zc,Zf]
    ·simp only [convs,conv,Zc,Zf,row1]
    rw [hA,obE_ren]
    obtain ⟨z2,hz2⟩ : ∃ z2,z2 = z + 1 + wM x.events:=⟨_,rfl⟩
    rw [← hz2]
    simp only [method_specs_simp,seval,w1,eg,grV,ZF,getD_set' hl1,List.length_set,hrl,hgs,Zb]
    have hA2 : ∀ o : Ob,(o :: (obGsb 1 ys ++ obEb b (mEvs (z + 1) x.events))).length = b + (x.events.length + 1):=fun o=>by rw [Zi,Zm,obGsb_len,obEb_len,mEvs_len]; omega
    have row2 : ∀ (v : List (List V)) (L : List Ob),(Ob.arr true 3 v :: (obGsb 1 ys ++ obEb b (mEvs (z + 1) x.events) ++ (obEb (b + (x.events.length + 1)) x.parked ++ L)))[b + (x.events.length + 1)]? = some (.arr true 9 (rowsEv (b + (x.events.length + 1) + 1) x.parked)):=fun v L=>by
     rw [← Zb,Ze (by rw [hA2]; exact Zg _),hA2,Zh]; rfl
    refine ⟨by omega,by omega,?_⟩
    refine clY.seg (A:=.arr true 3 (rr.set ys.length [V.int .i64 z,V.ar b 0 x.events.length,V.ar (b + (x.events.length + 1)) 0 x.parked.length]) :: (obGsb 1 ys ++ obEb b (mEvs (z + 1) x.events))) (B:=obE x.parked) (B':=obE (mEvs z2 x.parked)) (C:=obGsb (b + gLen x) zs) (n_markEventS x.parked z2 (by omega) (by omega) hOK.2 (by omega)) ?_ ?_ ?_ ?_ trivial ?_ ?_ ?_ ?_
    ·rw [obE_len,obE_len,mEvs_len]
    ·exact fun ob ho=>⟨obE_refs _ (by rw [obE_len]; omega) ob ho,obE_alive _ ob ho⟩
    ·exact obE_refs _ (by rw [obE_len,mEvs_len]; omega)
    ·rw [obE_len]; exact ⟨by show 0 < _; omega,trivial,trivial⟩
    ·rw [hA2,obE_ren]; simp only [Zb,Za]
    ·simp only [rens,V.ren,hA2,Zo,Zc,Zf]
    ·simp only [convs,conv,Zc,Zf,row2]
    rw [hA2,obE_ren]
    obtain ⟨z3,hz3⟩ : ∃ z3,z3 = z2 + wM x.parked:=⟨_,rfl⟩
    have hz4 : z3 = z + wR x:=by omega
    have e5 : obGsb 1 ys ++ (obEb b (mEvs (z + 1) x.events) ++ (obEb (b + (x.events.length + 1)) (mEvs z2 x.parked) ++ obGsb (b + gLen x) zs)) = obGsb 1 (ys ++ [mGrR z x]) ++ obGsb (1 + lenGs (ys ++ [mGrR z x])) zs:=by
     rw [obGsb_app,lenGs_app]
     simp only [obGsb,lenGs,obGb,Zf,Za,mGrR_len,Zo]
     simp only [mGrR,mEvs_len,← hb,← Zn,hz2]
    have e6 : rr.set ys.length [V.int .i64 z,V.ar b 0 x.events.length,V.ar (b + (x.events.length + 1)) 0 x.parked.length] = rowsGr 1 (ys ++ [mGrR z x] ++ zs):=by
     rw [← est]
     simp only [grV,mGrR,mEvs_len]
    rw [← hz3]
    simp only [method_specs_simp,seval,w9,Zb,Za]
    rw [e5,e6]
    refine AgainJ.mk (ys ++ [mGrR z x],zs,z3) ⟨?_,?_,?_,?_,?_⟩ (Zt _) ?_
    ·simp only [Zm,Zi,Zv]; omega
    ·simp only; rw [hm,mGs,Za,hz4]; rfl
    ·simp only; omega
    ·simp only; omega
    ·exact fun g hg=>hok g (List.mem_cons_of_mem _ hg)
    ·simp only [Zm,Zi,Zv]
     simp only [mvcgen_simp,method_specs_simp,seval]
  ·simp only [decide_eq_false_iff_not,Zd,Zk] at h
   cases zs with
   | cons x zs=>simp only [Zi] at hl; omega
   | nil =>
    simp only [wRs,mGs,Zf] at hz hm
    rw [← hz,hm]
    simp only [Zf,obGsb,obGs,Int.add_zero]
    trivial
end
theorem flat_sps (xs : List Sp) : Flatss (xs.map encSp):=by
 induction xs with
 | nil=>trivial
 | cons x xs ih=>exact ⟨⟨trivial,trivial,trivial⟩,ih⟩
theorem pure_sps (lv : Bool) (xs : List Sp) : (Ob.arr lv 2 (xs.map encSp)).pure:=Refss_map fun a=>encSp_ref1 _ a
def mSps : Int → Nat → List Sp
 | _,0=>[]
 | k,n + 1=>⟨k,k + 1⟩ :: mSps (k + 2) n
theorem mSps_succ : ∀ (n : Nat) (k : Int),mSps k (n + 1) = mSps k n ++ [⟨k + 2 * n,k + 2 * n + 1⟩]
 | 0,k=>by simp [mSps]
 | n + 1,k=>by
   rw [mSps,mSps_succ n,mSps,Zb]
   have : ((n + 1 : Nat) : Int) = n + 1:=rfl
   rw [this,show k + 2 + 2 * (n : Int) = k + 2 * (n + 1) by omega]
section
variable {P : Program} [Is P]
theorem n_toSpotS (xs : List Sp) (hx1 : xs.length * 16 ≤ 2 ^ 47) : NCon P 39 [.sl 2 (xs.map encSp)] (.ar 0 0 xs.length) [.arr true 2 (xs.map encSp)]:=by
 refine LCon.new (LCon.of (n:=23) (rs:=[.tmp 2]) (Is.fn Tryz.func39) rfl (Is.call Tryz.call39) Tryz.results39 Tryz.ntmps39 ?_) (pure1 (pure_sps _ _))
 simp only [method_specs_simp,seval]
 refine ⟨by omega,by omega,by omega,?_⟩
 refine SW.while (A:=Nat) (fun k=>⟨pad 23 [.sl 2 (xs.map encSp),.junk,.nil,.ar 0 0 xs.length,.int .i64 k],[.arr true 2 (rowZ encSp zSp xs k)],[]⟩) (fun k=>xs.length - k) (fun k=>k ≤ xs.length) 0 [0] (ZA _) ?_ ?_
 ·have ez : Zq xs.length [V.int .i64 0,.int .i64 0] = rowZ encSp zSp xs 0:=(rowZ_zero _ _ _).symm
  rw [ez]
  simp only [mvcgen_simp,method_specs_simp,seval]
 ·intro k hk
  refine CW.sound ?_
  simp only [method_specs_simp,seval]
  refine gB_split (fun h=>?_) (fun h=>?_)
  ·simp only [decide_eq_true_eq,Zk] at h
   have hxk : xs[k]? = some xs[k]:=ZB h
   generalize xs[k] = x at hxk
   simp only [ZC,hxk,method_specs_simp,seval]
   refine ⟨by omega,by omega,by simp [encSp],?_⟩
   rw [show List.take 2 (encSp x) = encSp x from rfl]
   refine clY.con (c_toSpot x) (by simp only [method_specs_simp,encSp]) ?_
   simp only [method_specs_simp,seval]
   rw [rowZ_get h]
   refine ⟨by omega,by omega,by rw [rowZ_length hk]; exact h,by simp [encSp,oneV],rfl,by simp [encSp],?_⟩
   rw [wrap_id (by omega) (by omega),show encSp x ++ List.drop (encSp x).length zSp = encSp x from rfl,rowZ_set hxk]
   refine Again.mk (k + 1) [0] h (ZD h (Zt _)) ?_
   simp only [mvcgen_simp,method_specs_simp,seval]
  ·simp only [decide_eq_false_iff_not,Zd,Zk] at h
   have hi : k = xs.length:=by omega
   subst hi
   rw [rowZ_all]
   refine LResY.mk [0] ?_
   simp only [mvcgen_simp,method_specs_simp,seval]
theorem n_markSpotS (xs : List Sp) (k : Int) (h0 : 0 ≤ k) (h1 : k < 2 ^ 57) (hx : xs.length < 2 ^ 50) : LCon P 54 [.ar 0 0 xs.length,.int .i64 k] [.arr true 2 (xs.map encSp)] (.int .i64 (k + 2 * xs.length)) [.arr true 2 ((mSps k xs.length).map encSp)]:=by
 refine LCon.of (n:=27) (rs:=[.tmp 4]) (Is.fn Tryz.func54) rfl (Is.call Tryz.call54) Tryz.results54 Tryz.ntmps54 ?_
 simp only [method_specs_simp,seval]
 refine SW.while (A:=Nat × List Sp) (fun a=>⟨pad 27 [.ar 0 0 xs.length,.int .i64 (k + 2 * a.1),.junk,.junk,.junk,.int .i64 a.1],[.arr true 2 (a.2.map encSp)],[.ar 0 0 xs.length,.eptr 0 1 0]⟩) (fun a=>xs.length - a.1)
   (fun a=>a.1 ≤ xs.length ∧ a.2.length = xs.length ∧ a.2.take a.1 = mSps k a.1) (0,xs) [0] ⟨ZA _,rfl,rfl⟩ ?_ ?_
 ·rw [show k + 2 * ((0 : Nat) : Int) = k by omega]
  simp only [mvcgen_simp,method_specs_simp,seval]
 ·rintro ⟨i,ys⟩ ⟨hk,hy,hr⟩
  simp only at hk hy hr
  refine CW.sound ?_
  simp only [method_specs_simp,seval,hy]
  refine gB_split (fun h=>?_) (fun h=>?_)
  ·simp only [decide_eq_true_eq,Zk] at h
   have hl : i < (ys.map encSp).length:=by simp; omega
   obtain ⟨y,hyi⟩ : ∃ y,ys[i]? = some y:=⟨ys[i],ZB (by omega)⟩
   have eg : (ys.map encSp).getD i [] = encSp y:=by rw [Zx,ZC,hyi]; rfl
   have e1 : IntKind.i64.wrap (k + 2 * i + 1) = k + 2 * i + 1:=wrap_id (by omega) (by omega)
   have e3 : IntKind.i64.wrap (k + 2 * i + 1 + 1) = k + 2 * ((i + 1 : Nat) : Int):=by rw [wrap_id (by omega) (by omega)]; omega
   have e4 : IntKind.i64.wrap ((i : Int) + 1) = ((i + 1 : Nat) : Int):=by rw [wrap_id (by omega) (by omega)]; rfl
   simp only [e1,e3,e4,eg,encSp,ZF,getD_set' hl,method_specs_simp,seval]
   refine ⟨by omega,by omega,by omega,by omega,by omega,by simp; omega,?_⟩
   refine Again.mk (i + 1,ys.set i ⟨k + 2 * i,k + 2 * i + 1⟩) [0] ⟨h,by simpa using hy,?_⟩ (ZD h (Zt _)) ?_
   ·simp only
    rw [take_set' (by omega),hr,mSps_succ]
   ·have e : [V.int IntKind.i64 (k + 2 * (i : Int)),V.int IntKind.i64 (k + 2 * (i : Int) + 1)] = encSp ⟨k + 2 * i,k + 2 * i + 1⟩:=rfl
    rw [e,← List.map_set]
    simp only [mvcgen_simp,method_specs_simp,seval]
  ·simp only [decide_eq_false_iff_not,Zd,Zk] at h
   have hi : i = xs.length:=by omega
   subst hi
   have e : ys = mSps k xs.length:=by rw [← hr,Zu (by omega)]
   subst e
   refine LResY.mk [0] ?_
   simp only [mvcgen_simp,method_specs_simp,seval]
def obHb (b : Nat) (h : Hb) : List Ob:=obGs b h.rooms ++ [.arr true 2 (h.stream.map encSp)]
def hubV (b : Nat) (h : Hb) : List V:=[.ar b 0 h.rooms.length,.ar (b + (lenGs h.rooms + 1)) 0 h.stream.length]
def hLen (h : Hb) : Nat:=lenGs h.rooms + 2
theorem obHb_len (b : Nat) (h : Hb) : (obHb b h).length = hLen h:=by rw [obHb,Zm,obGs_len]; rfl
theorem obHb_ren (b c : Nat) (h : Hb) : (obHb c h).map (Ob.ren (b + ·)) = obHb (b + c) h:=by
 unfold obHb
 rw [Zw,obGs_ren,List.map_singleton,Ob.ren_pure _ (pure_sps _ _)]
theorem obHb_refs {n b : Nat} (h : Hb) (hn : b + hLen h ≤ n) : ∀ ob ∈ obHb b h,ob.refs (· < n):=fun ob ho=>by
 unfold hLen at hn
 rcases Zj.1 ho with ho | ho
 ·exact obGs_refs _ (by omega) ob ho
 ·rw [ZG] at ho; subst ho
  exact Refss.mono (fun _ h=>h.elim) _ (pure_sps true h.stream)
theorem obHb_alive (b : Nat) (h : Hb) : ∀ ob ∈ obHb b h,ob.alive = true:=fun ob ho=>by
 rcases Zj.1 ho with ho | ho
 ·exact obGs_alive _ _ ob ho
 ·rw [ZG] at ho; subst ho; rfl
theorem obHb_flat (b : Nat) (h : Hb) : ∀ ob ∈ obHb b h,ob.flat:=fun ob ho=>by
 rcases Zj.1 ho with ho | ho
 ·exact obGs_flat _ _ ob ho
 ·rw [ZG] at ho; subst ho; exact ⟨rfl,flat_sps _⟩
theorem hubV_flat (b : Nat) (h : Hb) : Flat (.agg (hubV b h)):=⟨trivial,trivial,trivial⟩
theorem n_toHub (h : Hb) (hh : HbOK h) : LCon P 11 [.agg (encHb h)] [] (.agg (hubV 0 h)) (obHb 0 h):=by
 refine LCon.of (n:=13) (rs:=[.cell 2 31]) (Is.fn Tryz.func11) rfl (Is.call Tryz.call11) Tryz.results11 Tryz.ntmps11 ?_
 simp only [method_specs_simp,seval,encHb]
 refine clY.newD 0 (n_toGraphS h.rooms hh.1) (dcv_zero _ _) (by simp only [method_specs_simp]) trivial (obGs_flat 0 _) ?_
 rw [obGs_ren]
 simp only [method_specs_simp,seval,encHb,obGs]
 refine clY.new (n_toSpotS h.stream hh.2) (by simp only [method_specs_simp,encHb]) ?_
 simp only [method_specs_simp,seval,encHb]
 have hq : ∀ (o : Ob) (L : List Ob),(obGsb 4 h.rooms ++ o :: L)[(obGsb 4 h.rooms).length]? = some o:=fun o L=>by
  rw [Ze (Zg _),Zh]; rfl
 refine ⟨by unfold arrAt; rw [hq]; rfl,by rw [hq],by rw [hq],?_⟩
 rw [obGsb_len]
 refine LResY.tail3 ?_ ?_ (obHb_refs h (by rw [obHb_len]; omega)) ?_
 ·rw [obHb_ren]; rfl
 ·simp only [hubV,V.ren,rens,ZE]
  rw [show 3 + (lenGs h.rooms + 1) = lenGs h.rooms + 4 by omega]
 ·rw [obHb_len]
  exact ⟨by show 0 < _; unfold hLen; omega,by show 0 + (lenGs h.rooms + 1) < _; unfold hLen; omega,trivial⟩
def mHb (k : Int) (h : Hb) : Hb:=⟨mGs k h.rooms,mSps (k + wRs h.rooms) h.stream.length⟩
def wMH (h : Hb) : Int:=wRs h.rooms + 2 * h.stream.length
theorem wMH_nn (h : Hb) : 0 ≤ wMH h:=by have:=wRs_nn h.rooms; unfold wMH; omega
theorem wMH_le (h : Hb) : wMH h ≤ 8 * wH h:=by have:=wRs_le h.rooms; unfold wMH wH; omega
theorem mHb_hLen (k : Int) (h : Hb) : hLen (mHb k h) = hLen h:=by simp only [hLen,mHb,mGs_lenGs]
theorem n_markHub (h : Hb) (k : Int) (h0 : 0 ≤ k) (h1 : k < 2 ^ 55) (hh : HbOK h) (hw : k + wMH h < 2 ^ 55) : LCon P 19 [.agg (hubV 0 h),.int .i64 k] (obHb 0 h) (.int .i64 (k + wMH h)) (obHb 0 (mHb k h)):=by
 have n1:=wRs_nn h.rooms
 have hh2:=hh.2
 have hwm : wMH h = wRs h.rooms + 2 * h.stream.length:=rfl
 have q1 : ∀ o : Ob,(obHb 0 h ++ [o])[(obHb 0 h).length]? = some o:=fun o=>List.getElem?_concat_length
 have q2 : ∀ (lv : Bool) (cs : List V),boxAt (obHb 0 h ++ [Ob.box lv cs]) (obHb 0 h).length = some cs:=fun lv cs=>by unfold boxAt; rw [q1]
 refine LCon.of (n:=14) (rs:=[.tmp 4]) (Is.fn Tryz.func19) rfl (Is.call Tryz.call19) Tryz.results19 Tryz.ntmps19 ?_
 simp only [method_specs_simp,seval,hubV]
 simp only [method_specs_simp,seval,hubV,q1,q2]
 generalize hbx : Ob.box true [V.ar 0 0 h.rooms.length,V.ar (lenGs h.rooms + 1) 0 h.stream.length] = bx
 refine clY.seg (A:=[]) (B:=obGs 0 h.rooms) (B':=obGs 0 (mGs k h.rooms)) (C:=[.arr true 2 (h.stream.map encSp),bx]) (n_markGraphS h.rooms k h0 (by omega) hh.1 (by omega)) ?_ ?_ ?_ ?_ trivial ?_ ?_ ?_ ?_
 ·rw [obGs_len,obGs_len,mGs_lenGs]
 ·exact fun ob ho=>⟨obGs_refs _ (by rw [obGs_len]; omega) ob ho,obGs_alive _ _ ob ho⟩
 ·exact obGs_refs _ (by rw [obGs_len,mGs_lenGs]; omega)
 ·rw [obGs_len]; exact ⟨by show 0 < _; omega,trivial,trivial⟩
 ·rw [obGs_ren]
  simp only [obHb,Zc,Za]
  rfl
 ·rfl
 ·simp only [convs,conv,Zc,Zf]
  rfl
 rw [obGs_ren,Zc]
 have hl2 : (obGs 0 (mGs k h.rooms)).length = lenGs h.rooms + 1:=by rw [obGs_len,mGs_lenGs]
 have hl3 : (obHb 0 h).length = lenGs h.rooms + 1 + 1:=obHb_len 0 h
 obtain ⟨G2,hG2⟩ : ∃ G2,G2 = obGs 0 (mGs k h.rooms):=⟨_,rfl⟩
 have e0 : obGs ([] : List Ob).length (mGs k h.rooms) = G2:=hG2.symm
 rw [← hG2] at hl2
 have q3 : ∀ a o : Ob,(G2 ++ [a,o])[(obHb 0 h).length]? = some o:=fun a o=>by rw [hl3,Ze (by omega),hl2,Zs]; rfl
 have q4 : ∀ (lv : Bool) (a : Ob) (cs : List V),boxAt (G2 ++ [a,Ob.box lv cs]) (obHb 0 h).length = some cs:=fun lv a cs=>by unfold boxAt; rw [q3]
 have q5 : ∀ a o : Ob,(G2 ++ [a,o])[lenGs h.rooms + 1]? = some a:=fun a o=>by rw [Ze (by omega),hl2,Zh]; rfl
 rw [← hbx]
 simp only [Zv,Zo,← hG2]
 simp only [method_specs_simp,seval,hubV,q3,q4]
 refine clY.at1 (q:=lenGs h.rooms + 1) (n_markSpotS h.stream (k + wRs h.rooms) (by omega) (by omega) (by omega)) (q5 _ _) (pure_sps _ _) (pure_sps _ _) trivial ⟨trivial,trivial⟩ (by simp only [convs,conv]) ?_
 have q6 : ∀ a o a2 : Ob,(G2 ++ [a,o]).set (lenGs h.rooms + 1) a2 = G2 ++ [a2] ++ [o]:=fun a o a2=>by
  rw [Zy _ _ (by omega),hl2,Zh,Za]; rfl
 have e7 : G2 ++ [.arr true 2 ((mSps (k + wRs h.rooms) h.stream.length).map encSp)] = obHb 0 (mHb k h):=by rw [hG2]; rfl
 rw [q6,e7,show k + wRs h.rooms + 2 * (h.stream.length : Int) = k + wMH h by omega,hbx]
 obtain ⟨v,hv⟩ : ∃ v,v = k + wMH h:=⟨_,rfl⟩
 rw [← hv]
 simp only [method_specs_simp,seval,hubV]
 refine LResY.head rfl ?_ (obHb_refs _ (by rw [obHb_len]; omega)) trivial
 rw [obHb_len,obHb_len,mHb_hLen]
end
def LiesH (m : List Ob) (b : Nat) (h : Hb) : Prop:=∀ i ob,(obHb b h)[i]? = some ob → m[b + i]? = some ob
theorem LiesH.mk {A C m : List Ob} {b : Nat} {h : Hb} (hA : A.length = b) (em : m = A ++ (obHb b h ++ C)) : LiesH m b h:=fun i ob hi=>by
 subst em; subst hA
 rw [Ze (by omega),Zs,ZH (Zr.1 hi).1]
 exact hi
theorem dcv_grs {m : List Ob} : ∀ (l : List Gr) (q : Nat),(∀ i ob,(obGsb q l)[i]? = some ob → m[q + i]? = some ob) → (rowsGr q l).map (fun c=>c.map (dcv 2 m)) = l.map encGr
 | [],q,h=>rfl
 | g :: l,q,h=>by
   have hg : LiesG m q g:=fun i ob hi=>h i ob (by
    rw [obGsb,ZH (Zr.1 hi).1]; exact hi)
   have h1 : (grV q g).map (dcv 2 m) = encGr g:=by
    have:=hg.dcv
    have e : Go.Pm.dcv 3 m (.agg (grV q g)) = .agg ((grV q g).map (dcv 2 m)):=rfl
    rw [e] at this
    exact V.agg.inj this
   simp only [rowsGr,List.map_cons]
   rw [h1,dcv_grs l (q + gLen g) fun i ob hi=>?_]
   have:=h (gLen g + i) ob (by
    have e : (obGb q g).length = gLen g:=obGb_len q g
    rw [obGsb,Ze (by rw [e]; omega),e,Zs]; exact hi)
   rw [← this]; congr 1; omega
theorem LiesH.dcv {m : List Ob} {b : Nat} {h : Hb} (hl : LiesH m b h) : Go.Pm.dcv 4 m (.agg (hubV b h)) = .agg (encHb h):=by
 have a1 : m[b]? = some (.arr true 3 (rowsGr (b + 1) h.rooms)):=hl 0 _ rfl
 have a2 : m[b + (lenGs h.rooms + 1)]? = some (.arr true 2 (h.stream.map encSp)):=hl _ _ (by
  unfold obHb
  rw [Ze (by rw [obGs_len]; omega),obGs_len,Zh]; rfl)
 have h1 : Go.Pm.dcv 3 m (.ar b 0 h.rooms.length) = .sl 3 (h.rooms.map encGr):=by
  simp only [Go.Pm.dcv,a1,List.drop_zero]
  rw [Zu (by rw [rowsGr_len]; exact Zg _)]
  congr 1
  refine dcv_grs h.rooms (b + 1) fun i ob hi=>?_
  rw [Zn,Nat.add_comm 1 i]
  refine hl (i + 1) _ ?_
  unfold obHb obGs
  rw [Zb,Zz,ZH (Zr.1 hi).1]; exact hi
 have h2 : Go.Pm.dcv 3 m (.ar (b + (lenGs h.rooms + 1)) 0 h.stream.length) = .sl 2 (h.stream.map encSp):=by
  simp only [Go.Pm.dcv,a2,List.drop_zero]
  rw [Zu (by rw [Zl]; exact Zg _)]
  congr 1
  rw [List.map_map]
  exact List.map_congr_left fun x _=>rfl
 show V.agg [Go.Pm.dcv 3 m (.ar b 0 h.rooms.length),Go.Pm.dcv 3 m (.ar (b + (lenGs h.rooms + 1)) 0 h.stream.length)] = _
 rw [h1,h2]; rfl
theorem dcv_encH (m : List Ob) (n : Nat) (h : Hb) : dcv (n + 2) m (.agg (encHb h)) = .agg (encHb h):=rfl
theorem clY.segH {P : Program} {f : FuncId} {A L : List Ob} {rest : List V} {h h' : Hb} {r : V} {K KL : V → List Ob → Prop} (hc : LCon P f (.agg (hubV 0 h) :: rest) (obHb 0 h) r (obHb 0 h')) (hl : hLen h' = hLen h)
  (hr : Ref (fun _=>False) r) (hrest : Refs (fun _=>False) rest) (hcv : ∀ m,convs m rest = rest)
  (k : KL r (A ++ (obHb A.length h' ++ L))) : @clY P (.fn f [] []) (.agg (hubV A.length h) :: rest) (A ++ (obHb A.length h ++ L)) ⟨K,KL⟩:=by
 have e1 : (obHb 0 h).length = hLen h:=obHb_len 0 h
 refine clY.seg (A:=A) (B:=obHb 0 h) (B':=obHb 0 h') (C:=L) hc (by rw [obHb_len,obHb_len,hl]) (fun ob ho=>⟨obHb_refs h (by omega) ob ho,obHb_alive 0 h ob ho⟩) (fun ob ho=>obHb_refs h' (by omega) ob ho) ⟨?_,Refs.mono (fun _ h=>h.elim) _ hrest⟩ (Ref.mono (fun _ h=>h.elim) _ hr) ?_ ?_ ?_ ?_
 ·rw [e1]
  exact ⟨by show 0 < _; unfold hLen; omega,by show 0 + (lenGs h.rooms + 1) < _; unfold hLen; omega,trivial⟩
 ·rw [obHb_ren,Za]; rfl
 ·simp only [hubV,rens,V.ren,rens_pure _ hrest,Zc,Zf,Zo,ZE]
 ·have hL : LiesH (A ++ (obHb A.length h ++ L)) A.length h:=LiesH.mk rfl rfl
  have h1:=hL 0 _ rfl
  have h2 : (A ++ (obHb A.length h ++ L))[A.length + (lenGs h.rooms + 1)]? = some (.arr true 2 (h.stream.map encSp)):=hL _ _ (by
   unfold obHb
   rw [Ze (by rw [obGs_len]; omega),obGs_len,Zh]; rfl)
  rw [Zo] at h1
  simp only [Zc,Zf,convs,hcv,hubV,conv,h1,h2]
 ·rw [V.ren_pure _ hr,obHb_ren,Za]; exact k
@[method_specs_simp] theorem encHb_take (h : Hb) : (encHb h).take 2 = encHb h:=nr rfl
@[method_specs_simp] theorem encHb_two (h : Hb) : (2 ≤ (encHb h).length) = True:=eq_true (Zg 2)
theorem obHb_one (h : Hb) (a : Ob) (L : List Ob) : (a :: (obHb 1 h ++ L))[1 + (lenGs h.rooms + 1)]? = some (.arr true 2 (h.stream.map encSp)):=by
 have:=LiesH.mk (A:=[a]) (b:=1) (h:=h) (C:=L) rfl rfl (lenGs h.rooms + 1) (.arr true 2 (h.stream.map encSp)) (by
  unfold obHb
  rw [Ze (by rw [obGs_len]; omega),obGs_len,Zh]; rfl)
 exact this
theorem clY.segH1 {P : Program} {f : FuncId} {a : Ob} {G L : List Ob} {rest : List V} {h h' : Hb} {r : V} {K KL : V → List Ob → Prop} (hG : G = obHb 1 h) (hc : LCon P f (.agg (hubV 0 h) :: rest) (obHb 0 h) r (obHb 0 h')) (hl : hLen h' = hLen h)
  (hr : Ref (fun _=>False) r) (hrest : Refs (fun _=>False) rest) (hcv : ∀ m,convs m rest = rest)
  (k : KL r (a :: (obHb 1 h' ++ L))) : @clY P (.fn f [] []) (.agg (hubV 1 h) :: rest) (a :: (G ++ L)) ⟨K,KL⟩:=by
 subst hG
 exact clY.segH (A:=[a]) hc hl hr hrest hcv k
section
variable {P : Program} [Is P]
theorem RoomsOf_law (h : Hb) (id : Int) (zs : List Int) (hh : HbOK h) (hz : zs.length < 2 ^ 50) (h46 : Con P 16 [.agg (encHb h),.int .i64 id] (.sl 1 (zs.map encI))) (h47 : LCon P 17 [.agg (encHb h),.int .i64 id] [] (.ar 0 0 zs.length) [.arr true 1 (zs.map encI)]) :
  Con P 5 [.agg (encHb h),.int .i64 id] (.bool true):=by
 refine Con.of (n:=74) (rs:=[.tmp 4]) (Is.fn Tryz.func5) rfl (Is.call Tryz.call5) Tryz.results5 Tryz.ntmps5 trivial ?_
 simp only [method_specs_simp,seval]
 refine clY.con (c_szHub h 1048576 (by decide) (by decide) hh) (by simp only [method_specs_simp]) ?_
 simp only [method_specs_simp,seval]
 refine gB_split (fun _=>trivial) (fun w1=>?_)
 obtain ⟨q1,q2,q3⟩:=sb_yes (wH_nn h) w1
 refine clY.con (c_toHub h hh) (by simp only [method_specs_simp]) ?_
 simp only [method_specs_simp,seval]
 refine clY.con (h46) (by simp only [method_specs_simp]) ?_
 simp only [method_specs_simp,seval]
 refine clY.newD 0 (n_toHub h hh) (dcv_zero _ _) (by simp only [method_specs_simp]) (hubV_flat 0 h) (obHb_flat 0 h) ?_
 obtain ⟨G,hG⟩ : ∃ G,G = obHb 1 h:=⟨_,rfl⟩
 obtain ⟨N,hN⟩ : ∃ N,N = hLen h:=⟨_,rfl⟩
 have hp : Past G N:=Past.mk' (by rw [hG,hN,obHb_len])
 have hA1 : ∀ L : List Ob,(G ++ L)[0]? = some (.arr true 3 (rowsGr 2 h.rooms)):=fun L=>by rw [hG]; rfl
 have hA2 : ∀ (a : Ob) (L : List Ob),(a :: (G ++ L))[1 + (lenGs h.rooms + 1)]? = some (.arr true 2 (h.stream.map encSp)):=fun a L=>by
  rw [hG]; exact obHb_one h a L
 simp only [method_specs_simp,seval,hp.len,hp.g0,hp.g,hp.b0,hp.b,hp.v0,hp.v,hp.a0,hp.a,hp.w0,hp.w,hp.s0,hp.s,Za,Zb,Zc,obHb_ren,hubV,← hG,hA1,hA2]
 have hL : ∀ (a : Ob) (L : List Ob),LiesH (a :: (G ++ L)) 1 h:=fun a L=>LiesH.mk (A:=[a]) rfl (by rw [hG]; rfl)
 refine clY.newD 4 h47 ?_ ⟨encHb_ref1 _ h,trivial,trivial⟩ trivial (flat1 ⟨rfl,flat_ints _⟩) ?_
 ·show [dcv 4 _ (.agg (hubV 1 h)),dcv 4 _ (.int .i64 id)] = _
  rw [(hL _ _).dcv]; rfl
 simp only [method_specs_simp,seval,hp.len,hp.g0,hp.g,hp.b0,hp.b,hp.v0,hp.v,hp.a0,hp.a,hp.w0,hp.w,hp.s0,hp.s,Za,Zb,Zc]
 refine clY.conD 1 (c_eqInt64S zs (by omega)) ?_ ⟨of_eq_true (encI_refs _ zs),of_eq_true (encI_refs _ zs),trivial⟩ trivial ?_
 ·show [dcv 1 _ (.ar (N + 2) 0 zs.length),dcv 1 _ (.sl 1 (zs.map encI))] = _
  rw [dcv_flat (zs:=zs.map encI) (lv:=true) (sz:=1)]
  rfl
  simp only [method_specs_simp,seval,hp.len,hp.g0,hp.g,hp.b0,hp.b,hp.v0,hp.v,hp.a0,hp.a,hp.w0,hp.w,hp.s0,hp.s,Za,Zb,Zc]
  rw [Zl]
 simp only [method_specs_simp,seval,hp.len,hp.g0,hp.g,hp.b0,hp.b,hp.v0,hp.v,hp.a0,hp.a,hp.w0,hp.w,hp.s0,hp.s,Za,Zb,Zc]
 refine ⟨by kernel_rfl,?_⟩
 refine clY.con (c_toHub h hh) (by simp only [method_specs_simp,hp.len,hp.g0,hp.g,hp.b0,hp.b,hp.v0,hp.v,hp.a0,hp.a,hp.w0,hp.w,hp.s0,hp.s,Za,Zb,Zc]) ?_
 simp only [method_specs_simp,seval,hp.len,hp.g0,hp.g,hp.b0,hp.b,hp.v0,hp.v,hp.a0,hp.a,hp.w0,hp.w,hp.s0,hp.s,Za,Zb,Zc]
 refine clY.conD 4 (c_eqHub h hh) ?_ ⟨encHb_ref1 _ h,encHb_ref1 _ h,trivial⟩ trivial ?_
 ·show [dcv 4 _ (.agg (hubV 1 h)),dcv 4 _ (.agg (encHb h))] = _
  rw [(hL _ _).dcv,dcv_encH]
 simp only [method_specs_simp,seval,hp.len,hp.g0,hp.g,hp.b0,hp.b,hp.v0,hp.v,hp.a0,hp.a,hp.w0,hp.w,hp.s0,hp.s,Za,Zb,Zc,Zd]
 have b1:=wMH_le h
 have b2:=wMH_nn h
 have hk : decide (1 + wMH h < 0) = false:=decide_eq_false (by omega)
 refine clY.segH1 hG (n_markHub h 1 (by decide) (by decide) hh (by omega)) (mHb_hLen 1 h) trivial ⟨trivial,trivial⟩ (fun m=>by simp only [convs,conv]) ?_
 obtain ⟨G2,hG2⟩ : ∃ G2,G2 = obHb 1 (mHb 1 h):=⟨_,rfl⟩
 have hp2 : Past G2 N:=Past.mk' (by rw [hG2,hN,obHb_len]; exact mHb_hLen 1 h)
 rw [← hG2]
 have hmi:=mInts_len zs.length 1
 have hk2 : decide (1 + (zs.length : Int) < 0) = false:=decide_eq_false (by omega)
 simp only [method_specs_simp,seval,hk,hk2,bne_self_eq_false,Zd,hp2.len,hp2.g0,hp2.g,hp2.b0,hp2.b,hp2.v0,hp2.v,hp2.a0,hp2.a,hp2.w0,hp2.w,hp2.s0,hp2.s,Za,Zb,Zc]
 refine clY.conD 1 (c_eqInt64S zs (by omega)) ?_ ⟨of_eq_true (encI_refs _ zs),of_eq_true (encI_refs _ zs),trivial⟩ trivial ?_
 ·show [dcv 1 _ (.ar (N + 2) 0 zs.length),dcv 1 _ (.sl 1 (zs.map encI))] = _
  rw [dcv_flat (zs:=zs.map encI) (lv:=true) (sz:=1)]
  rfl
  simp only [method_specs_simp,seval,hk,hk2,bne_self_eq_false,Zd,hp2.len,hp2.g0,hp2.g,hp2.b0,hp2.b,hp2.v0,hp2.v,hp2.a0,hp2.a,hp2.w0,hp2.w,hp2.s0,hp2.s,Za,Zb,Zc]
  rw [Zl]
 simp only [method_specs_simp,seval,hk,hk2,bne_self_eq_false,Zd,hp2.len,hp2.g0,hp2.g,hp2.b0,hp2.b,hp2.v0,hp2.v,hp2.a0,hp2.a,hp2.w0,hp2.w,hp2.s0,hp2.s,Za,Zb,Zc]
 refine clY.at1 (q:=N + 2) (n_markInt64S zs 1 (by decide) (by decide) (by omega)) ?_ (pure_ints _ _) (pure_ints _ _) trivial ⟨trivial,trivial⟩ (by simp only [convs,conv]) ?_
 ·simp only [method_specs_simp,seval,hk,hk2,bne_self_eq_false,Zd,hp2.len,hp2.g0,hp2.g,hp2.b0,hp2.b,hp2.v0,hp2.v,hp2.a0,hp2.a,hp2.w0,hp2.w,hp2.s0,hp2.s,Za,Zb,Zc]
 simp only [method_specs_simp,seval,hk,hk2,bne_self_eq_false,Zd,hp2.len,hp2.g0,hp2.g,hp2.b0,hp2.b,hp2.v0,hp2.v,hp2.a0,hp2.a,hp2.w0,hp2.w,hp2.s0,hp2.s,Za,Zb,Zc]
 refine clY.conD 1 (c_heldInt64S 1 zs.length (by decide) (by decide) (by omega)) ?_ ⟨of_eq_true (encI_refs _ _),trivial,trivial⟩ trivial ?_
 ·show [dcv 1 _ (.ar (N + 2) 0 zs.length),dcv 1 _ (.int .i64 1)] = _
  rw [dcv_flat (zs:=(mInts 1 zs.length).map encI) (lv:=true) (sz:=1)]
  rfl
  simp only [method_specs_simp,seval,hk,hk2,bne_self_eq_false,Zd,hp2.len,hp2.g0,hp2.g,hp2.b0,hp2.b,hp2.v0,hp2.v,hp2.a0,hp2.a,hp2.w0,hp2.w,hp2.s0,hp2.s,Za,Zb,Zc]
  rw [Zl,hmi]
 simp only [method_specs_simp,seval,hk,hk2,bne_self_eq_false,Zd,hp2.len,hp2.g0,hp2.g,hp2.b0,hp2.b,hp2.v0,hp2.v,hp2.a0,hp2.a,hp2.w0,hp2.w,hp2.s0,hp2.s,Za,Zb,Zc]
 refine clY.con (c_toHub h hh) (by simp only [method_specs_simp,hk,hk2,bne_self_eq_false,Zd,hp2.len,hp2.g0,hp2.g,hp2.b0,hp2.b,hp2.v0,hp2.v,hp2.a0,hp2.a,hp2.w0,hp2.w,hp2.s0,hp2.s,Za,Zb,Zc]) ?_
 simp only [method_specs_simp,seval,hk,hk2,bne_self_eq_false,Zd,hp2.len,hp2.g0,hp2.g,hp2.b0,hp2.b,hp2.v0,hp2.v,hp2.a0,hp2.a,hp2.w0,hp2.w,hp2.s0,hp2.s,Za,Zb,Zc]
 refine clY.newD 0 h47 (dcv_zero _ _) ⟨encHb_ref1 _ h,trivial,trivial⟩ trivial (flat1 ⟨rfl,flat_ints _⟩) ?_
 simp only [method_specs_simp,seval,hk,hk2,bne_self_eq_false,Zd,hp2.len,hp2.g0,hp2.g,hp2.b0,hp2.b,hp2.v0,hp2.v,hp2.a0,hp2.a,hp2.w0,hp2.w,hp2.s0,hp2.s,Za,Zb,Zc]
 refine clY.conD 1 (c_eqInt64S zs (by omega)) ?_ ⟨of_eq_true (encI_refs _ zs),of_eq_true (encI_refs _ zs),trivial⟩ trivial ?_
 ·show [dcv 1 _ (.ar (N + 3) 0 zs.length),dcv 1 _ (.sl 1 (zs.map encI))] = _
  rw [dcv_flat (zs:=zs.map encI) (lv:=true) (sz:=1)]
  rfl
  simp only [method_specs_simp,seval,hk,hk2,bne_self_eq_false,Zd,hp2.len,hp2.g0,hp2.g,hp2.b0,hp2.b,hp2.v0,hp2.v,hp2.a0,hp2.a,hp2.w0,hp2.w,hp2.s0,hp2.s,Za,Zb,Zc]
  rw [Zl]
 simp only [method_specs_simp,seval,hk,hk2,bne_self_eq_false,Zd,hp2.len,hp2.g0,hp2.g,hp2.b0,hp2.b,hp2.v0,hp2.v,hp2.a0,hp2.a,hp2.w0,hp2.w,hp2.s0,hp2.s,Za,Zb,Zc]
 refine clY.conD 1 (c_heldInt64S 1 zs.length (by decide) (by decide) (by omega)) ?_ ⟨of_eq_true (encI_refs _ _),trivial,trivial⟩ trivial ?_
 ·show [dcv 1 _ (.ar (N + 2) 0 zs.length),dcv 1 _ (.int .i64 1)] = _
  rw [dcv_flat (zs:=(mInts 1 zs.length).map encI) (lv:=true) (sz:=1)]
  rfl
  simp only [method_specs_simp,seval,hk,hk2,bne_self_eq_false,Zd,hp2.len,hp2.g0,hp2.g,hp2.b0,hp2.b,hp2.v0,hp2.v,hp2.a0,hp2.a,hp2.w0,hp2.w,hp2.s0,hp2.s,Za,Zb,Zc]
  rw [Zl,hmi]
 simp only [method_specs_simp,seval,hk,hk2,bne_self_eq_false,Zd,hp2.len,hp2.g0,hp2.g,hp2.b0,hp2.b,hp2.v0,hp2.v,hp2.a0,hp2.a,hp2.w0,hp2.w,hp2.s0,hp2.s,Za,Zb,Zc]
theorem RoomsOf_lawZ (h : Hb) (id : Int) (hh : HbOK h) (h46 : Con P 16 [.agg (encHb h),.int .i64 id] (.sl 1 (([] : List Int).map encI))) (h47 : Con P 17 [.agg (encHb h),.int .i64 id] .nil) :
  Con P 5 [.agg (encHb h),.int .i64 id] (.bool true):=by
 refine Con.of (n:=74) (rs:=[.tmp 4]) (Is.fn Tryz.func5) rfl (Is.call Tryz.call5) Tryz.results5 Tryz.ntmps5 trivial ?_
 simp only [method_specs_simp,seval]
 refine clY.con (c_szHub h 1048576 (by decide) (by decide) hh) (by simp only [method_specs_simp]) ?_
 simp only [method_specs_simp,seval]
 refine gB_split (fun _=>trivial) (fun w1=>?_)
 obtain ⟨q1,q2,q3⟩:=sb_yes (wH_nn h) w1
 refine clY.con (c_toHub h hh) (by simp only [method_specs_simp]) ?_
 simp only [method_specs_simp,seval]
 refine clY.con (h46) (by simp only [method_specs_simp]) ?_
 simp only [method_specs_simp,seval]
 refine clY.newD 0 (n_toHub h hh) (dcv_zero _ _) (by simp only [method_specs_simp]) (hubV_flat 0 h) (obHb_flat 0 h) ?_
 obtain ⟨G,hG⟩ : ∃ G,G = obHb 1 h:=⟨_,rfl⟩
 obtain ⟨N,hN⟩ : ∃ N,N = hLen h:=⟨_,rfl⟩
 have hp : Past G N:=Past.mk' (by rw [hG,hN,obHb_len])
 have hA1 : ∀ L : List Ob,(G ++ L)[0]? = some (.arr true 3 (rowsGr 2 h.rooms)):=fun L=>by rw [hG]; rfl
 have hA2 : ∀ (a : Ob) (L : List Ob),(a :: (G ++ L))[1 + (lenGs h.rooms + 1)]? = some (.arr true 2 (h.stream.map encSp)):=fun a L=>by
  rw [hG]; exact obHb_one h a L
 simp only [method_specs_simp,seval,hp.len,hp.g0,hp.g,hp.b0,hp.b,hp.v0,hp.v,hp.a0,hp.a,hp.w0,hp.w,hp.s0,hp.s,Za,Zb,Zc,obHb_ren,hubV,← hG,hA1,hA2]
 have hL : ∀ (a : Ob) (L : List Ob),LiesH (a :: (G ++ L)) 1 h:=fun a L=>LiesH.mk (A:=[a]) rfl (by rw [hG]; rfl)
 refine clY.conD 4 h47 ?_ ⟨encHb_ref1 _ h,trivial,trivial⟩ trivial ?_
 ·show [dcv 4 _ (.agg (hubV 1 h)),dcv 4 _ (.int .i64 id)] = _
  rw [(hL _ _).dcv]; rfl
 simp only [method_specs_simp,seval,hp.len,hp.g0,hp.g,hp.b0,hp.b,hp.v0,hp.v,hp.a0,hp.a,hp.w0,hp.w,hp.s0,hp.s,Za,Zb,Zc]
 refine clY.con (c_eqNil) (by simp only [method_specs_simp,hp.len,hp.g0,hp.g,hp.b0,hp.b,hp.v0,hp.v,hp.a0,hp.a,hp.w0,hp.w,hp.s0,hp.s,Za,Zb,Zc]) ?_
 simp only [method_specs_simp,seval,hp.len,hp.g0,hp.g,hp.b0,hp.b,hp.v0,hp.v,hp.a0,hp.a,hp.w0,hp.w,hp.s0,hp.s,Za,Zb,Zc]
 refine ⟨by kernel_rfl,?_⟩
 refine clY.con (c_toHub h hh) (by simp only [method_specs_simp,hp.len,hp.g0,hp.g,hp.b0,hp.b,hp.v0,hp.v,hp.a0,hp.a,hp.w0,hp.w,hp.s0,hp.s,Za,Zb,Zc]) ?_
 simp only [method_specs_simp,seval,hp.len,hp.g0,hp.g,hp.b0,hp.b,hp.v0,hp.v,hp.a0,hp.a,hp.w0,hp.w,hp.s0,hp.s,Za,Zb,Zc]
 refine clY.conD 4 (c_eqHub h hh) ?_ ⟨encHb_ref1 _ h,encHb_ref1 _ h,trivial⟩ trivial ?_
 ·show [dcv 4 _ (.agg (hubV 1 h)),dcv 4 _ (.agg (encHb h))] = _
  rw [(hL _ _).dcv,dcv_encH]
 simp only [method_specs_simp,seval,hp.len,hp.g0,hp.g,hp.b0,hp.b,hp.v0,hp.v,hp.a0,hp.a,hp.w0,hp.w,hp.s0,hp.s,Za,Zb,Zc,Zd]
 have b1:=wMH_le h
 have b2:=wMH_nn h
 have hk : decide (1 + wMH h < 0) = false:=decide_eq_false (by omega)
 refine clY.segH1 hG (n_markHub h 1 (by decide) (by decide) hh (by omega)) (mHb_hLen 1 h) trivial ⟨trivial,trivial⟩ (fun m=>by simp only [convs,conv]) ?_
 obtain ⟨G2,hG2⟩ : ∃ G2,G2 = obHb 1 (mHb 1 h):=⟨_,rfl⟩
 have hp2 : Past G2 N:=Past.mk' (by rw [hG2,hN,obHb_len]; exact mHb_hLen 1 h)
 rw [← hG2]
 simp only [method_specs_simp,seval,hk,bne_self_eq_false,Zd,hp2.len,hp2.g0,hp2.g,hp2.b0,hp2.b,hp2.v0,hp2.v,hp2.a0,hp2.a,hp2.w0,hp2.w,hp2.s0,hp2.s,Za,Zb,Zc]
 refine clY.con (c_eqNil) (by simp only [method_specs_simp,hk,bne_self_eq_false,Zd,hp2.len,hp2.g0,hp2.g,hp2.b0,hp2.b,hp2.v0,hp2.v,hp2.a0,hp2.a,hp2.w0,hp2.w,hp2.s0,hp2.s,Za,Zb,Zc]) ?_
 simp only [method_specs_simp,seval,hk,bne_self_eq_false,Zd,hp2.len,hp2.g0,hp2.g,hp2.b0,hp2.b,hp2.v0,hp2.v,hp2.a0,hp2.a,hp2.w0,hp2.w,hp2.s0,hp2.s,Za,Zb,Zc]
 refine clY.con (c_markNil 1) (by simp only [method_specs_simp,hk,bne_self_eq_false,Zd,hp2.len,hp2.g0,hp2.g,hp2.b0,hp2.b,hp2.v0,hp2.v,hp2.a0,hp2.a,hp2.w0,hp2.w,hp2.s0,hp2.s,Za,Zb,Zc]) ?_
 simp only [method_specs_simp,seval,hk,bne_self_eq_false,Zd,hp2.len,hp2.g0,hp2.g,hp2.b0,hp2.b,hp2.v0,hp2.v,hp2.a0,hp2.a,hp2.w0,hp2.w,hp2.s0,hp2.s,Za,Zb,Zc]
 refine clY.con (c_heldNil 1 (by decide) (by decide)) (by simp only [method_specs_simp,hk,bne_self_eq_false,Zd,hp2.len,hp2.g0,hp2.g,hp2.b0,hp2.b,hp2.v0,hp2.v,hp2.a0,hp2.a,hp2.w0,hp2.w,hp2.s0,hp2.s,Za,Zb,Zc]) ?_
 simp only [method_specs_simp,seval,hk,bne_self_eq_false,Zd,hp2.len,hp2.g0,hp2.g,hp2.b0,hp2.b,hp2.v0,hp2.v,hp2.a0,hp2.a,hp2.w0,hp2.w,hp2.s0,hp2.s,Za,Zb,Zc]
 refine clY.con (c_toHub h hh) (by simp only [method_specs_simp,hk,bne_self_eq_false,Zd,hp2.len,hp2.g0,hp2.g,hp2.b0,hp2.b,hp2.v0,hp2.v,hp2.a0,hp2.a,hp2.w0,hp2.w,hp2.s0,hp2.s,Za,Zb,Zc]) ?_
 simp only [method_specs_simp,seval,hk,bne_self_eq_false,Zd,hp2.len,hp2.g0,hp2.g,hp2.b0,hp2.b,hp2.v0,hp2.v,hp2.a0,hp2.a,hp2.w0,hp2.w,hp2.s0,hp2.s,Za,Zb,Zc]
 refine clY.con (h47) (by simp only [method_specs_simp,hk,bne_self_eq_false,Zd,hp2.len,hp2.g0,hp2.g,hp2.b0,hp2.b,hp2.v0,hp2.v,hp2.a0,hp2.a,hp2.w0,hp2.w,hp2.s0,hp2.s,Za,Zb,Zc]) ?_
 simp only [method_specs_simp,seval,hk,bne_self_eq_false,Zd,hp2.len,hp2.g0,hp2.g,hp2.b0,hp2.b,hp2.v0,hp2.v,hp2.a0,hp2.a,hp2.w0,hp2.w,hp2.s0,hp2.s,Za,Zb,Zc]
 refine clY.con (c_eqNil) (by simp only [method_specs_simp,hk,bne_self_eq_false,Zd,hp2.len,hp2.g0,hp2.g,hp2.b0,hp2.b,hp2.v0,hp2.v,hp2.a0,hp2.a,hp2.w0,hp2.w,hp2.s0,hp2.s,Za,Zb,Zc]) ?_
 simp only [method_specs_simp,seval,hk,bne_self_eq_false,Zd,hp2.len,hp2.g0,hp2.g,hp2.b0,hp2.b,hp2.v0,hp2.v,hp2.a0,hp2.a,hp2.w0,hp2.w,hp2.s0,hp2.s,Za,Zb,Zc]
 refine clY.con (c_heldNil 1 (by decide) (by decide)) (by simp only [method_specs_simp,hk,bne_self_eq_false,Zd,hp2.len,hp2.g0,hp2.g,hp2.b0,hp2.b,hp2.v0,hp2.v,hp2.a0,hp2.a,hp2.w0,hp2.w,hp2.s0,hp2.s,Za,Zb,Zc]) ?_
 simp only [method_specs_simp,seval,hk,bne_self_eq_false,Zd,hp2.len,hp2.g0,hp2.g,hp2.b0,hp2.b,hp2.v0,hp2.v,hp2.a0,hp2.a,hp2.w0,hp2.w,hp2.s0,hp2.s,Za,Zb,Zc]
theorem c_FnExactRoomsOf (h : Hb) (user : Int) (hh : HbOK h) : Con P 5 [.agg (encHb h),.int .i64 user] (.bool true):=by
 have hrl:=rmsL_len h.rooms user
 have h1:=hh.1.1
 cases hr : rmOf h user with
 | true=>exact RoomsOf_law h user _ hh (by omega) (c_sRoomsOf h user hh hr) (n_RoomsOf h user hh hr)
 | false=>exact RoomsOf_lawZ h user hh (c_sRoomsOfZ h user hh hr) (c_RoomsOfZ h user hh hr)
end
end Go.Proofs.YtiafnciiieofmaaGreat
end
section
namespace Go.Proofs.YtiafnciiieofmaaGreat
open Go.Pm
open Go.Gm (Ev Gr)
open Go.ChangeShapes Go.WideShapes Go.ChangeAt Go.RowKit
set_option maxRecDepth 100000
def tSpot : Ty:=.st [.int .i64,.int .i64]
def tSpots : Ty:=.sl 2 16 tSpot
def tGraphs : Ty:=.sl 3 56 tGraph
def tHub : Ty:=.st [tGraphs,tSpots]
theorem in_hub {xs : List V} (h : In tHub xs) : ∃ x : Hb,xs = encHb x ∧ HbOK x:=by
 obtain ⟨_,_,rfl,⟨ra,rfl,hla,hra⟩,_,_,rfl,⟨rb,rfl,hlb,hrb⟩,rfl⟩:=h
 have h0:=reachBytes_lt
 obtain ⟨a,rfl,ha⟩:=list_map_ofG (p:=fun a b=>a = encGr b ∧ GrOK b) (q:=GrOK) (fun _ _ h=>h) fun r hr'=>in_graph (hra r hr')
 obtain ⟨b,rfl,_⟩:=list_map_ofG (p:=fun a b=>a = encSp b) (q:=fun _=>True) (fun _ _ h=>⟨h,trivial⟩) fun r hr'=>by
  obtain ⟨_,_,rfl,⟨n,rfl,_⟩,_,_,rfl,⟨m,rfl,_⟩,rfl⟩:=hrb r hr'
  exact ⟨⟨n,m⟩,rfl⟩
 rw [Zl] at hla hlb
 exact ⟨⟨a,b⟩,rfl,⟨by show a.length * 56 ≤ _; omega,ha⟩,by show b.length * 16 ≤ _; omega⟩
theorem ok_hub : OKT Tryz.prog tHub 25:=by
 refine ⟨_,Tryz.underlying25,rfl,⟨_,Tryz.underlying22,ok_graph,?_,?_,?_⟩,rfl,⟨_,Tryz.underlying23,⟨_,Tryz.underlying119,rfl,Tryz.underlying2,rfl,Tryz.underlying2,?_⟩,?_,?_,?_⟩,?_⟩
 all_goals first | kernel_rfl | decide | (show (_ : Nat) = _; kernel_rfl)
end Go.Proofs.YtiafnciiieofmaaGreat
end
section
namespace Go.Proofs.YtiafnciiieofmaaGreat
set_option maxRecDepth 100000
theorem and_mk {a b : Bool} (ha : a = true) (hb : b = true) : (a && b) = true:=by rw [ha,hb]; rfl
theorem p_own : ownKnob Tryz.prog.godebug = none:=by kernel_rfl
theorem p_laid : laidOutB Tryz.prog = true:=by kernel_rfl
theorem p_maps : mapsRowed Tryz.prog = true:=by kernel_rfl
theorem p_stops : (Tryz.prog.stops == []) = true:=by kernel_rfl
theorem p_knobs : (Tryz.prog.stopKnobs == []) = true:=by kernel_rfl
theorem p_keys : (false == Tryz.prog.plainKeys) = true:=by kernel_rfl
theorem p_heard : Tryz.prog.stopsHeard = true:=by kernel_rfl
theorem p_enter : Tryz.prog.mayEnter = true:=by kernel_rfl
end Go.Proofs.YtiafnciiieofmaaGreat
end
