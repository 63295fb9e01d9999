/- Live hubs as wholes: made, marked, read. No conditions but lengths and bounds of numbers. The law of RoomsOf: for every hub and user. No conditions but the sizes that an input has. An event as a hub shows it: both models. Conditions: sizes that an input has. The law of ShownOf: for every hub, room and id. No conditions but the sizes that an input has. The type of a hub, as the arguments are read. No conditions. Closed facts of the whole program that every row asks, for a program with maps whose keys are structs. No conditions. -/
import Derived.Test.YtiafnciiieofmaaGreatRows
import Derived.WalkKit
import Derived.ProofKit
import Derived.OpenShut
import Derived.ShutString
import Derived.ChangeOld
import Derived.Below
import Derived.SizedLaws
import Derived.Test.YtiafnciiieofmaaGreatT6
set_option linter.unusedSimpArgs false
set_option linter.unusedVariables false
set_option maxRecDepth 10000
set_option maxHeartbeats 4000000
open List renaming nil_append → Za, cons_append → Zb, append_assoc → Zc, getElem?_eq_some_iff → Ze, getElem?_append_right → Zf, mem_singleton → Zh, append_nil → Zj, getElem?_of_mem → Zn, take_of_length_le → Zp, map_singleton → Zq, mem_append → Zr, getElem?_append_left → Zt, getElem?_eq_getElem → Zv, getElem?_map → Zw, getElem?_cons_succ → Zy, singleton_append → Zz
open Bool renaming not_true → Zd, and_eq_true → Zm, true_and → Zo, false_and → Zu
open Nat renaming sub_self → Zg, le_refl → Zi, add_zero → Zl, add_sub_cancel_left → Zs, sub_lt_sub_left → Zx
open Int renaming ofNat_lt → Zk
section
namespace Go.Proofs.YtiafnciiieofmaaGreat
open Go.Pm
open Go.Gm (Ev Gr)
theorem flat_sps (xs : List Sp) : Flatss (xs.map encSp):=by
 induction xs with
 | nil=>trivial
 | cons x xs ih=>exact ⟨⟨trivial,trivial,trivial⟩,ih⟩
theorem pure_sps (lv : Bool) (xs : List Sp) : (Ob.arr lv 2 (xs.map encSp)).pure:=Refss_map fun a=>encSp_ref1 _ a
def mSps : Int → Nat → List Sp
 | _,0=>[]
 | k,n + 1=>⟨k,k + 1⟩ :: mSps (k + 2) n
theorem mSps_succ : ∀ (n : Nat) (k : Int),mSps k (n + 1) = mSps k n ++ [⟨k + 2 * n,k + 2 * n + 1⟩]
 | 0,k=>by simp [mSps]
 | n + 1,k=>by
   rw [mSps,mSps_succ n,mSps,Zb]
   have : ((n + 1 : Nat) : Int) = n + 1:=rfl
   rw [this,show k + 2 + 2 * (n : Int) = k + 2 * (n + 1) by omega]
section
variable {P : Program} [Is P]
theorem n_toSpotS (xs : List Sp) (hx1 : xs.length * 16 ≤ 2 ^ 47) : NCon P 39 [.sl 2 (xs.map encSp)] (.ar 0 0 xs.length) [.arr true 2 (xs.map encSp)]:=by
 refine LCon.new (LCon.of (n:=23) (rs:=[.tmp 2]) (Is.fn Tryz.func39) rfl (Is.call Tryz.call39) Tryz.results39 Tryz.ntmps39 ?_) (pure1 (pure_sps _ _))
 simp only [method_specs_simp,seval]
 refine ⟨by omega,by omega,by omega,?_⟩
 refine SW.while (A:=Nat) (fun k=>⟨pad 23 [.sl 2 (xs.map encSp),.junk,.nil,.ar 0 0 xs.length,.int .i64 k],[.arr true 2 (rowZ encSp zSp xs k)],[]⟩) (fun k=>xs.length - k) (fun k=>k ≤ xs.length) 0 [0] (Nat.zero_le _) ?_ ?_
 ·have ez : List.replicate xs.length [V.int .i64 0,.int .i64 0] = rowZ encSp zSp xs 0:=(rowZ_zero _ _ _).symm
  rw [ez]
  simp only [mvcgen_simp,method_specs_simp,seval]
 ·intro k hk
  refine CW.sound ?_
  simp only [method_specs_simp,seval]
  refine gB_split (fun h=>?_) (fun h=>?_)
  ·simp only [decide_eq_true_eq,Zk] at h
   have hxk : xs[k]? = some xs[k]:=Zv h
   generalize xs[k] = x at hxk
   simp only [Zw,hxk,method_specs_simp,seval]
   refine ⟨by omega,by omega,by simp [encSp],?_⟩
   rw [show List.take 2 (encSp x) = encSp x from rfl]
   refine clY.con (c_toSpot x) (by simp only [method_specs_simp,encSp]) ?_
   simp only [method_specs_simp,seval]
   rw [rowZ_get h]
   refine ⟨by omega,by omega,by rw [rowZ_length hk]; exact h,by simp [encSp,oneV],rfl,by simp [encSp],?_⟩
   rw [wrap_id (by omega) (by omega),show encSp x ++ List.drop (encSp x).length zSp = encSp x from rfl,rowZ_set hxk]
   refine Again.mk (k + 1) [0] h (Zx h (Nat.lt_succ_self _)) ?_
   simp only [mvcgen_simp,method_specs_simp,seval]
  ·simp only [decide_eq_false_iff_not,Zd,Zk] at h
   have hi : k = xs.length:=by omega
   subst hi
   rw [rowZ_all]
   refine LResY.mk [0] ?_
   simp only [mvcgen_simp,method_specs_simp,seval]
theorem n_markSpotS (xs : List Sp) (k : Int) (h0 : 0 ≤ k) (h1 : k < 2 ^ 57) (hx : xs.length < 2 ^ 50) : LCon P 54 [.ar 0 0 xs.length,.int .i64 k] [.arr true 2 (xs.map encSp)] (.int .i64 (k + 2 * xs.length)) [.arr true 2 ((mSps k xs.length).map encSp)]:=by
 refine LCon.of (n:=27) (rs:=[.tmp 4]) (Is.fn Tryz.func54) rfl (Is.call Tryz.call54) Tryz.results54 Tryz.ntmps54 ?_
 simp only [method_specs_simp,seval]
 refine SW.while (A:=Nat × List Sp) (fun a=>⟨pad 27 [.ar 0 0 xs.length,.int .i64 (k + 2 * a.1),.junk,.junk,.junk,.int .i64 a.1],[.arr true 2 (a.2.map encSp)],[.ar 0 0 xs.length,.eptr 0 1 0]⟩) (fun a=>xs.length - a.1)
   (fun a=>a.1 ≤ xs.length ∧ a.2.length = xs.length ∧ a.2.take a.1 = mSps k a.1) (0,xs) [0] ⟨Nat.zero_le _,rfl,rfl⟩ ?_ ?_
 ·rw [show k + 2 * ((0 : Nat) : Int) = k by omega]
  simp only [mvcgen_simp,method_specs_simp,seval]
 ·rintro ⟨i,ys⟩ ⟨hk,hy,hr⟩
  simp only at hk hy hr
  refine CW.sound ?_
  simp only [method_specs_simp,seval,hy]
  refine gB_split (fun h=>?_) (fun h=>?_)
  ·simp only [decide_eq_true_eq,Zk] at h
   have hl : i < (ys.map encSp).length:=by simp; omega
   obtain ⟨y,hyi⟩ : ∃ y,ys[i]? = some y:=⟨ys[i],Zv (by omega)⟩
   have eg : (ys.map encSp).getD i [] = encSp y:=by rw [List.getD_eq_getElem?_getD,Zw,hyi]; rfl
   have e1 : IntKind.i64.wrap (k + 2 * i + 1) = k + 2 * i + 1:=wrap_id (by omega) (by omega)
   have e3 : IntKind.i64.wrap (k + 2 * i + 1 + 1) = k + 2 * ((i + 1 : Nat) : Int):=by rw [wrap_id (by omega) (by omega)]; omega
   have e4 : IntKind.i64.wrap ((i : Int) + 1) = ((i + 1 : Nat) : Int):=by rw [wrap_id (by omega) (by omega)]; rfl
   simp only [e1,e3,e4,eg,encSp,List.set_set,getD_set' hl,method_specs_simp,seval]
   refine ⟨by omega,by omega,by omega,by omega,by omega,by simp; omega,?_⟩
   refine Again.mk (i + 1,ys.set i ⟨k + 2 * i,k + 2 * i + 1⟩) [0] ⟨h,by simpa using hy,?_⟩ (Zx h (Nat.lt_succ_self _)) ?_
   ·simp only
    rw [take_set' (by omega),hr,mSps_succ]
   ·have e : [V.int IntKind.i64 (k + 2 * (i : Int)),V.int IntKind.i64 (k + 2 * (i : Int) + 1)] = encSp ⟨k + 2 * i,k + 2 * i + 1⟩:=rfl
    rw [e,← List.map_set]
    simp only [mvcgen_simp,method_specs_simp,seval]
  ·simp only [decide_eq_false_iff_not,Zd,Zk] at h
   have hi : i = xs.length:=by omega
   subst hi
   have e : ys = mSps k xs.length:=by rw [← hr,Zp (by omega)]
   subst e
   refine LResY.mk [0] ?_
   simp only [mvcgen_simp,method_specs_simp,seval]
def obHb (b : Nat) (h : Hb) : List Ob:=obGs b h.rooms ++ [.arr true 2 (h.stream.map encSp)]
def hubV (b : Nat) (h : Hb) : List V:=[.ar b 0 h.rooms.length,.ar (b + (lenGs h.rooms + 1)) 0 h.stream.length]
def hLen (h : Hb) : Nat:=lenGs h.rooms + 2
theorem obHb_len (b : Nat) (h : Hb) : (obHb b h).length = hLen h:=by rw [obHb,List.length_append,obGs_len]; rfl
theorem obHb_ren (b c : Nat) (h : Hb) : (obHb c h).map (Ob.ren (b + ·)) = obHb (b + c) h:=by
 unfold obHb
 rw [List.map_append,obGs_ren,Zq,Ob.ren_pure _ (pure_sps _ _)]
theorem obHb_refs {n b : Nat} (h : Hb) (hn : b + hLen h ≤ n) : ∀ ob ∈ obHb b h,ob.refs (· < n):=fun ob ho=>by
 unfold hLen at hn
 rcases Zr.1 ho with ho | ho
 ·exact obGs_refs _ (by omega) ob ho
 ·rw [Zh] at ho; subst ho
  exact Refss.mono (fun _ h=>h.elim) _ (pure_sps true h.stream)
theorem obHb_alive (b : Nat) (h : Hb) : ∀ ob ∈ obHb b h,ob.alive = true:=fun ob ho=>by
 rcases Zr.1 ho with ho | ho
 ·exact obGs_alive _ _ ob ho
 ·rw [Zh] at ho; subst ho; rfl
theorem obHb_flat (b : Nat) (h : Hb) : ∀ ob ∈ obHb b h,ob.flat:=fun ob ho=>by
 rcases Zr.1 ho with ho | ho
 ·exact obGs_flat _ _ ob ho
 ·rw [Zh] at ho; subst ho; exact ⟨rfl,flat_sps _⟩
theorem hubV_flat (b : Nat) (h : Hb) : Flat (.agg (hubV b h)):=⟨trivial,trivial,trivial⟩
theorem n_toHub (h : Hb) (hh : HbOK h) : LCon P 11 [.agg (encHb h)] [] (.agg (hubV 0 h)) (obHb 0 h):=by
 refine LCon.of (n:=13) (rs:=[.cell 2 31]) (Is.fn Tryz.func11) rfl (Is.call Tryz.call11) Tryz.results11 Tryz.ntmps11 ?_
 simp only [method_specs_simp,seval,encHb]
 refine clY.newD 0 (n_toGraphS h.rooms hh.1) (dcv_zero _ _) (by simp only [method_specs_simp]) trivial (obGs_flat 0 _) ?_
 rw [obGs_ren]
 simp only [method_specs_simp,seval,encHb,obGs]
 refine clY.new (n_toSpotS h.stream hh.2) (by simp only [method_specs_simp,encHb]) ?_
 simp only [method_specs_simp,seval,encHb]
 have hq : ∀ (o : Ob) (L : List Ob),(obGsb 4 h.rooms ++ o :: L)[(obGsb 4 h.rooms).length]? = some o:=fun o L=>by
  rw [Zf (Zi _),Zg]; rfl
 refine ⟨by unfold arrAt; rw [hq]; rfl,by rw [hq],by rw [hq],?_⟩
 rw [obGsb_len]
 refine LResY.tail3 ?_ ?_ (obHb_refs h (by rw [obHb_len]; omega)) ?_
 ·rw [obHb_ren]; rfl
 ·simp only [hubV,V.ren,rens,Nat.zero_add]
  rw [show 3 + (lenGs h.rooms + 1) = lenGs h.rooms + 4 by omega]
 ·rw [obHb_len]
  exact ⟨by show 0 < _; unfold hLen; omega,by show 0 + (lenGs h.rooms + 1) < _; unfold hLen; omega,trivial⟩
def mHb (k : Int) (h : Hb) : Hb:=⟨mGs k h.rooms,mSps (k + wRs h.rooms) h.stream.length⟩
def wMH (h : Hb) : Int:=wRs h.rooms + 2 * h.stream.length
theorem wMH_nn (h : Hb) : 0 ≤ wMH h:=by have:=wRs_nn h.rooms; unfold wMH; omega
theorem wMH_le (h : Hb) : wMH h ≤ 8 * wH h:=by have:=wRs_le h.rooms; unfold wMH wH; omega
theorem mHb_hLen (k : Int) (h : Hb) : hLen (mHb k h) = hLen h:=by simp only [hLen,mHb,mGs_lenGs]
theorem n_markHub (h : Hb) (k : Int) (h0 : 0 ≤ k) (h1 : k < 2 ^ 55) (hh : HbOK h) (hw : k + wMH h < 2 ^ 55) : LCon P 19 [.agg (hubV 0 h),.int .i64 k] (obHb 0 h) (.int .i64 (k + wMH h)) (obHb 0 (mHb k h)):=by
 have n1:=wRs_nn h.rooms
 have hh2:=hh.2
 have hwm : wMH h = wRs h.rooms + 2 * h.stream.length:=rfl
 have q1 : ∀ o : Ob,(obHb 0 h ++ [o])[(obHb 0 h).length]? = some o:=fun o=>List.getElem?_concat_length
 have q2 : ∀ (lv : Bool) (cs : List V),boxAt (obHb 0 h ++ [Ob.box lv cs]) (obHb 0 h).length = some cs:=fun lv cs=>by unfold boxAt; rw [q1]
 refine LCon.of (n:=14) (rs:=[.tmp 4]) (Is.fn Tryz.func19) rfl (Is.call Tryz.call19) Tryz.results19 Tryz.ntmps19 ?_
 simp only [method_specs_simp,seval,hubV]
 simp only [method_specs_simp,seval,hubV,q1,q2]
 generalize hbx : Ob.box true [V.ar 0 0 h.rooms.length,V.ar (lenGs h.rooms + 1) 0 h.stream.length] = bx
 refine clY.seg (A:=[]) (B:=obGs 0 h.rooms) (B':=obGs 0 (mGs k h.rooms)) (C:=[.arr true 2 (h.stream.map encSp),bx]) (n_markGraphS h.rooms k h0 (by omega) hh.1 (by omega)) ?_ ?_ ?_ ?_ trivial ?_ ?_ ?_ ?_
 ·rw [obGs_len,obGs_len,mGs_lenGs]
 ·exact fun ob ho=>⟨obGs_refs _ (by rw [obGs_len]; omega) ob ho,obGs_alive _ _ ob ho⟩
 ·exact obGs_refs _ (by rw [obGs_len,mGs_lenGs]; omega)
 ·rw [obGs_len]; exact ⟨by show 0 < _; omega,trivial,trivial⟩
 ·rw [obGs_ren]
  simp only [obHb,Za,Zc]
  rfl
 ·rfl
 ·simp only [convs,conv,Za,Zj]
  rfl
 rw [obGs_ren,Za]
 have hl2 : (obGs 0 (mGs k h.rooms)).length = lenGs h.rooms + 1:=by rw [obGs_len,mGs_lenGs]
 have hl3 : (obHb 0 h).length = lenGs h.rooms + 1 + 1:=obHb_len 0 h
 obtain ⟨G2,hG2⟩ : ∃ G2,G2 = obGs 0 (mGs k h.rooms):=⟨_,rfl⟩
 have e0 : obGs ([] : List Ob).length (mGs k h.rooms) = G2:=hG2.symm
 rw [← hG2] at hl2
 have q3 : ∀ a o : Ob,(G2 ++ [a,o])[(obHb 0 h).length]? = some o:=fun a o=>by rw [hl3,Zf (by omega),hl2,Zs]; rfl
 have q4 : ∀ (lv : Bool) (a : Ob) (cs : List V),boxAt (G2 ++ [a,Ob.box lv cs]) (obHb 0 h).length = some cs:=fun lv a cs=>by unfold boxAt; rw [q3]
 have q5 : ∀ a o : Ob,(G2 ++ [a,o])[lenGs h.rooms + 1]? = some a:=fun a o=>by rw [Zf (by omega),hl2,Zg]; rfl
 rw [← hbx]
 simp only [List.length_nil,Zl,← hG2]
 simp only [method_specs_simp,seval,hubV,q3,q4]
 refine clY.at1 (q:=lenGs h.rooms + 1) (n_markSpotS h.stream (k + wRs h.rooms) (by omega) (by omega) (by omega)) (q5 _ _) (pure_sps _ _) (pure_sps _ _) trivial ⟨trivial,trivial⟩ (by simp only [convs,conv]) ?_
 have q6 : ∀ a o a2 : Ob,(G2 ++ [a,o]).set (lenGs h.rooms + 1) a2 = G2 ++ [a2] ++ [o]:=fun a o a2=>by
  rw [List.set_append_right _ _ (by omega),hl2,Zg,Zc]; rfl
 have e7 : G2 ++ [.arr true 2 ((mSps (k + wRs h.rooms) h.stream.length).map encSp)] = obHb 0 (mHb k h):=by rw [hG2]; rfl
 rw [q6,e7,show k + wRs h.rooms + 2 * (h.stream.length : Int) = k + wMH h by omega,hbx]
 obtain ⟨v,hv⟩ : ∃ v,v = k + wMH h:=⟨_,rfl⟩
 rw [← hv]
 simp only [method_specs_simp,seval,hubV]
 refine LResY.head rfl ?_ (obHb_refs _ (by rw [obHb_len]; omega)) trivial
 rw [obHb_len,obHb_len,mHb_hLen]
end
def LiesH (m : List Ob) (b : Nat) (h : Hb) : Prop:=∀ i ob,(obHb b h)[i]? = some ob → m[b + i]? = some ob
theorem LiesH.mk {A C m : List Ob} {b : Nat} {h : Hb} (hA : A.length = b) (em : m = A ++ (obHb b h ++ C)) : LiesH m b h:=fun i ob hi=>by
 subst em; subst hA
 rw [Zf (by omega),Zs,Zt (Ze.1 hi).1]
 exact hi
theorem dcv_grs {m : List Ob} : ∀ (l : List Gr) (q : Nat),(∀ i ob,(obGsb q l)[i]? = some ob → m[q + i]? = some ob) → (rowsGr q l).map (fun c=>c.map (dcv 2 m)) = l.map encGr
 | [],q,h=>rfl
 | g :: l,q,h=>by
   have hg : LiesG m q g:=fun i ob hi=>h i ob (by
    rw [obGsb,Zt (Ze.1 hi).1]; exact hi)
   have h1 : (grV q g).map (dcv 2 m) = encGr g:=by
    have:=hg.dcv
    have e : Go.Pm.dcv 3 m (.agg (grV q g)) = .agg ((grV q g).map (dcv 2 m)):=rfl
    rw [e] at this
    exact V.agg.inj this
   simp only [rowsGr,List.map_cons]
   rw [h1,dcv_grs l (q + gLen g) fun i ob hi=>?_]
   have:=h (gLen g + i) ob (by
    have e : (obGb q g).length = gLen g:=obGb_len q g
    rw [obGsb,Zf (by rw [e]; omega),e,Zs]; exact hi)
   rw [← this]; congr 1; omega
theorem LiesH.dcv {m : List Ob} {b : Nat} {h : Hb} (hl : LiesH m b h) : Go.Pm.dcv 4 m (.agg (hubV b h)) = .agg (encHb h):=by
 have a1 : m[b]? = some (.arr true 3 (rowsGr (b + 1) h.rooms)):=hl 0 _ rfl
 have a2 : m[b + (lenGs h.rooms + 1)]? = some (.arr true 2 (h.stream.map encSp)):=hl _ _ (by
  unfold obHb
  rw [Zf (by rw [obGs_len]; omega),obGs_len,Zg]; rfl)
 have h1 : Go.Pm.dcv 3 m (.ar b 0 h.rooms.length) = .sl 3 (h.rooms.map encGr):=by
  simp only [Go.Pm.dcv,a1,List.drop_zero]
  rw [Zp (by rw [rowsGr_len]; exact Zi _)]
  congr 1
  refine dcv_grs h.rooms (b + 1) fun i ob hi=>?_
  rw [Nat.add_assoc,Nat.add_comm 1 i]
  refine hl (i + 1) _ ?_
  unfold obHb obGs
  rw [Zb,Zy,Zt (Ze.1 hi).1]; exact hi
 have h2 : Go.Pm.dcv 3 m (.ar (b + (lenGs h.rooms + 1)) 0 h.stream.length) = .sl 2 (h.stream.map encSp):=by
  simp only [Go.Pm.dcv,a2,List.drop_zero]
  rw [Zp (by rw [List.length_map]; exact Zi _)]
  congr 1
  rw [List.map_map]
  exact List.map_congr_left fun x _=>rfl
 show V.agg [Go.Pm.dcv 3 m (.ar b 0 h.rooms.length),Go.Pm.dcv 3 m (.ar (b + (lenGs h.rooms + 1)) 0 h.stream.length)] = _
 rw [h1,h2]; rfl
theorem dcv_encH (m : List Ob) (n : Nat) (h : Hb) : dcv (n + 2) m (.agg (encHb h)) = .agg (encHb h):=rfl
theorem clY.segH {P : Program} {f : FuncId} {A L : List Ob} {rest : List V} {h h' : Hb} {r : V} {K KL : V → List Ob → Prop} (hc : LCon P f (.agg (hubV 0 h) :: rest) (obHb 0 h) r (obHb 0 h')) (hl : hLen h' = hLen h)
  (hr : Ref (fun _=>False) r) (hrest : Refs (fun _=>False) rest) (hcv : ∀ m,convs m rest = rest)
  (k : KL r (A ++ (obHb A.length h' ++ L))) : @clY P (.fn f [] []) (.agg (hubV A.length h) :: rest) (A ++ (obHb A.length h ++ L)) ⟨K,KL⟩:=by
 have e1 : (obHb 0 h).length = hLen h:=obHb_len 0 h
 refine clY.seg (A:=A) (B:=obHb 0 h) (B':=obHb 0 h') (C:=L) hc (by rw [obHb_len,obHb_len,hl]) (fun ob ho=>⟨obHb_refs h (by omega) ob ho,obHb_alive 0 h ob ho⟩) (fun ob ho=>obHb_refs h' (by omega) ob ho) ⟨?_,Refs.mono (fun _ h=>h.elim) _ hrest⟩ (Ref.mono (fun _ h=>h.elim) _ hr) ?_ ?_ ?_ ?_
 ·rw [e1]
  exact ⟨by show 0 < _; unfold hLen; omega,by show 0 + (lenGs h.rooms + 1) < _; unfold hLen; omega,trivial⟩
 ·rw [obHb_ren,Zc]; rfl
 ·simp only [hubV,rens,V.ren,rens_pure _ hrest,Za,Zj,Zl,Nat.zero_add]
 ·have hL : LiesH (A ++ (obHb A.length h ++ L)) A.length h:=LiesH.mk rfl rfl
  have h1:=hL 0 _ rfl
  have h2 : (A ++ (obHb A.length h ++ L))[A.length + (lenGs h.rooms + 1)]? = some (.arr true 2 (h.stream.map encSp)):=hL _ _ (by
   unfold obHb
   rw [Zf (by rw [obGs_len]; omega),obGs_len,Zg]; rfl)
  rw [Zl] at h1
  simp only [Za,Zj,convs,hcv,hubV,conv,h1,h2]
 ·rw [V.ren_pure _ hr,obHb_ren,Zc]; exact k
@[method_specs_simp] theorem encHb_take (h : Hb) : (encHb h).take 2 = encHb h:=nr rfl
@[method_specs_simp] theorem encHb_two (h : Hb) : (2 ≤ (encHb h).length) = True:=eq_true (Zi 2)
def hidB (h : Hb) (g : Gr) (e : Ev) (id : Int) : Bool:=(e.kind == 7 || e.kind == 4) && (hidI h g id != 0)
def noText (e : Ev) : Ev:={ e with text:={ data:=#[] } }
def shE (h : Hb) (g : Gr) (id : Int) : Ev × Bool :=
 let e:=(atE g.events id).getD zE
 if hidB h g e id then (noText e,true) else (e,false)
def encSh (x : Ev × Bool) : List V:=encEv x.1 ++ [.bool x.2]
def rowSh (q : Nat) (x : Ev × Bool) : List V:=rowEv q x.1 ++ [.bool x.2]
def zSh : List V:=zEv ++ [.bool false]
theorem encSh_ref1 (ok : Nat → Prop) (x : Ev × Bool) : Refs ok (encSh x) :=by simp only [encSh,encEv,Zb,Za,Refs,Ref,encI_refs,and_self]
theorem zSh_ref (ok : Nat → Prop) : Ref ok (.agg zSh):=by simp only [zSh,zEv,Zb,Za,Ref,Refs,and_self]
theorem shR_ref (ok : Nat → Prop) (b : Bool) (x : Ev × Bool) : Ref ok (if b = true then .agg (encSh x) else .agg zSh):=by
 cases b
 ·exact zSh_ref ok
 ·exact encSh_ref1 ok x
theorem rowSh_flat (q : Nat) (x : Ev × Bool) : Flat (.agg (rowSh q x)):=⟨trivial,trivial,trivial,trivial,trivial,trivial,trivial,trivial,trivial,trivial,trivial⟩
theorem hidS_nn {h : Hb} (hh : HbOK h) (hr : rightS h = true) {g : Gr} (hg : g ∈ h.rooms) (id : Int) : 0 ≤ (hidS h.stream g id g.events).1:=by
 obtain ⟨hnd,h120,h3,hrm⟩:=right_nd hr
 have hG:=(RmG.of hh hrm).gg hg
 have h0 : ∀ e ∈ g.events,0 < e.id:=fun e he=>by
  have:=hG.ev e he
  unfold Gm.evRight at this
  simp only [Gm.isB,Zm,decide_eq_true_eq] at this
  omega
 rcases hidS_inv h.stream g id (fun e he=>by have:=h0 e he; omega) g.events.length (Zi _) with ⟨h1,h2⟩ | ⟨e,he,hc,h1,h2⟩
 ·rw [List.take_length] at h1; rw [h1]; exact Int.le_refl _
 ·rw [List.take_length] at h1 he; rw [h1]; have:=h0 e he; simp only; omega
section
variable {P : Program} [Is P]
theorem n_shown (h : Hb) (hh : HbOK h) (hr : rightS h = true) (g : Gr) (id : Int) (hg : g ∈ h.rooms) (hp : posS h.stream ⟨g.room,id⟩ ≠ 0) : LCon P 60 [srvV h,.int .i64 g.room,.int .i64 id] [] (.agg (rowSh 0 (shE h g id))) [obI (shE h g id).1]:=by
 obtain ⟨hnd,h120,h3,hrm⟩:=right_nd hr
 have hR:=RmG.of hh hrm
 have hG:=hR.gg hg
 obtain ⟨i0,hi0⟩:=Zn hg
 have hi0l:=(Ze.1 hi0).1
 have hgr:=(hR i0 g hi0).2
 have hsrm : Con P 78 [srvV h,.int .i64 g.room] (hF g (hsG g)):=c_sroom h.rooms g.room g _ _ (by omega) (by rw [show (g.room - 1).toNat = i0 by omega]; exact hi0) (by omega)
 have hpos:=c_spos (P:=P) h ⟨g.room,id⟩ hr
 have hp0 : (posS h.stream ⟨g.room,id⟩ == 0) = false:=by simpa using hp
 obtain ⟨e,he⟩ : ∃ e,e = (atE g.events id).getD zE:=⟨_,rfl⟩
 have hOK : EvOK e:=by rw [he]; exact at_ok hG.ok id
 unfold shE
 simp only [← he]
 refine LCon.of (n:=49) (rs:=[.cell 6 46]) (Is.fn Tryz.func60) rfl (Is.call Tryz.call60) Tryz.results60 Tryz.ntmps60 ?_
 simp only [method_specs_simp,seval]
 refine clY.con hpos ⟨srvV_ref _ h,trivial,trivial,trivial⟩ ?_
 simp only [method_specs_simp,seval,hp0]
 refine clY.con hsrm ⟨srvV_ref _ h,trivial,trivial⟩ ?_
 simp only [method_specs_simp,seval,hF]
 refine clY.con (c_at g id hG.hx hG.srt) (by simp only [method_specs_simp,encGr]) ?_
 rw [← he]
 simp only [method_specs_simp,seval,encEv]
 refine clY.new (n_copied e hOK) (by simp only [method_specs_simp]) ?_
 simp only [method_specs_simp,seval]
 simp only [method_specs_simp,seval,rowEv,obI]
 have hhb:=c_shidden (P:=P) h hh hr g id hg
 have hsr:=srvV_ref (fun _=>False) h
 have fin : ∀ (b : Bool) (e1 : Ev),hidB h g e id = b → e1 = (if b then noText e else e) → (if hidB h g e id = true then (noText e,true) else (e,false)) = (e1,b):=fun b e1 h1 h2=>by
  rw [h1,h2]; cases b <;> rfl
 cases k7 : e.kind == 7 with
 | true =>
  simp only [method_specs_simp,seval]
  refine clY.con hhb ⟨hsr,trivial,trivial,trivial⟩ ?_
  cases hq : hidI h g id != 0 with
  | true =>
   rw [fin true (noText e) (by unfold hidB; rw [k7,hq]; rfl) rfl]
   simp only [method_specs_simp,seval,hq]
   refine LResY.mk [2] ?_
   simp only [mvcgen_simp,method_specs_simp,seval,rowSh,rowEv,noText,obI]
  | false =>
   rw [fin false e (by unfold hidB; rw [k7,hq]; rfl) rfl]
   simp only [method_specs_simp,seval,hq]
   refine LResY.mk [2] ?_
   simp only [mvcgen_simp,method_specs_simp,seval,rowSh,rowEv,obI]
 | false =>
  simp only [method_specs_simp,seval]
  cases k4 : e.kind == 4 with
  | true =>
   simp only [method_specs_simp,seval]
   refine clY.con hhb ⟨hsr,trivial,trivial,trivial⟩ ?_
   cases hq : hidI h g id != 0 with
   | true =>
    rw [fin true (noText e) (by unfold hidB; rw [k7,k4,hq]; rfl) rfl]
    simp only [method_specs_simp,seval,hq]
    refine LResY.mk [2] ?_
    simp only [mvcgen_simp,method_specs_simp,seval,rowSh,rowEv,noText,obI]
   | false =>
    rw [fin false e (by unfold hidB; rw [k7,k4,hq]; rfl) rfl]
    simp only [method_specs_simp,seval,hq]
    refine LResY.mk [2] ?_
    simp only [mvcgen_simp,method_specs_simp,seval,rowSh,rowEv,obI]
  | false =>
   rw [fin false e (by unfold hidB; rw [k7,k4]; rfl) rfl]
   simp only [method_specs_simp,seval]
   refine LResY.mk [2] ?_
   simp only [mvcgen_simp,method_specs_simp,seval,rowSh,rowEv,obI]
theorem c_shownZ (h : Hb) (x : Sp) (hr : rightS h = true) (hp : posS h.stream x = 0) : Con P 60 [srvV h,.int .i64 x.room,.int .i64 x.id] (.agg zSh):=by
 have hpos:=c_spos (P:=P) h x hr
 have hp0 : (posS h.stream x == 0) = true:=by simpa using hp
 refine Con.of (n:=49) (rs:=[.cell 6 46]) (Is.fn Tryz.func60) rfl (Is.call Tryz.call60) Tryz.results60 Tryz.ntmps60 (zSh_ref _) ?_
 simp only [method_specs_simp,seval,zSh,zEv]
 refine clY.con hpos ⟨srvV_ref _ h,trivial,trivial,trivial⟩ ?_
 simp only [method_specs_simp,seval,zSh,zEv,hp0]
def visB (h : Hb) (x : Sp) : Bool:=rightS h && Gm.isB x.room 1 3 && !(posS h.stream x == 0)
theorem n_ShownOf (h : Hb) (x : Sp) (hh : HbOK h) (hv : visB h x = true) : LCon P 25 [.agg (encHb h),.int .i64 x.room,.int .i64 x.id] [] (.agg (rowSh 0 (shE h (gAt h.rooms x.room) x.id))) [obI (shE h (gAt h.rooms x.room) x.id).1]:=by
 unfold visB at hv
 simp only [Zm,Bool.not_eq_true',beq_eq_false_iff_ne] at hv
 obtain ⟨⟨hr,hb⟩,hp⟩:=hv
 obtain ⟨g1,g2⟩:=gAt_in hh hr hb
 have hns:=c_newServer (P:=P) h hh
 rw [nsR_yes (by rw [right_same hh]; exact hr)] at hns
 have hs:=n_shown (P:=P) h hh hr _ x.id g1 (by rw [g2]; exact hp)
 rw [g2] at hs
 have hsr:=srvV_ref (fun _=>False) h
 generalize shE h (gAt h.rooms x.room) x.id = y at *
 refine LCon.of (n:=26) (rs:=[.cell 6 46]) (Is.fn Tryz.func25) rfl (Is.call Tryz.call25) Tryz.results25 Tryz.ntmps25 ?_
 simp only [method_specs_simp,seval,encHb]
 refine clY.con hns (by simp only [method_specs_simp,encHb]) ?_
 simp only [method_specs_simp,seval,encHb]
 refine clY.con (c_isRoom x.room) ⟨trivial,trivial⟩ ?_
 rw [hb]
 simp only [method_specs_simp,seval,encHb]
 refine clY.newD 0 hs (dcv_zero _ _) ⟨hsr,trivial,trivial,trivial⟩ (rowSh_flat 0 y) (flat1 ⟨rfl,flat_ints _⟩) ?_
 simp only [method_specs_simp,seval,encHb,rowSh,rowEv,obI]
 refine LResY.mk [2] ?_
 simp only [mvcgen_simp,method_specs_simp,seval,encHb,rowSh,rowEv,obI]
theorem c_ShownOfZ (h : Hb) (x : Sp) (hh : HbOK h) (hv : visB h x = false) : Con P 25 [.agg (encHb h),.int .i64 x.room,.int .i64 x.id] (.agg zSh):=by
 have hns:=c_newServer (P:=P) h hh
 refine Con.of (n:=26) (rs:=[.cell 6 46]) (Is.fn Tryz.func25) rfl (Is.call Tryz.call25) Tryz.results25 Tryz.ntmps25 (zSh_ref _) ?_
 simp only [method_specs_simp,seval,encHb,zSh,zEv]
 refine clY.con hns (by simp only [method_specs_simp,encHb]) ?_
 unfold visB at hv
 rw [← right_same hh] at hv
 cases hb : rightI h with
 | true =>
  rw [hb,Zo] at hv
  rw [nsR_yes hb]
  simp only [method_specs_simp,seval,encHb,zSh,zEv]
  refine clY.con (c_isRoom x.room) ⟨trivial,trivial⟩ ?_
  cases hb2 : Gm.isB x.room 1 3 with
  | true =>
   rw [hb2,Zo] at hv
   have hz:=c_shownZ (P:=P) h x (by rw [← right_same hh]; exact hb) (by simpa using hv)
   simp only [method_specs_simp,seval,encHb,zSh,zEv]
   refine clY.con hz ⟨srvV_ref _ h,trivial,trivial,trivial⟩ ?_
   simp only [method_specs_simp,seval,encHb,zSh,zEv,zSh,zEv]
  | false =>
   simp only [method_specs_simp,seval,encHb,zSh,zEv]
 | false =>
  obtain ⟨v,hv2,_⟩:=nsR_no hb
  rw [hv2]
  simp only [method_specs_simp,seval,encHb,zSh,zEv]
theorem c_l08Shown (h : Hb) (hh : HbOK h) (hr : rightS h = true) (g : Gr) (k : Nat) (e : Ev) (hg : g ∈ h.rooms) (hk : g.events[k]? = some e) (ha : atE g.events e.id = some e) : Con P 59 [wV h,.int .i64 g.room,.int .i64 k] (.agg (encSh (shE h g e.id))):=by
 obtain ⟨hnd,h120,h3,hrm⟩:=right_nd hr
 have hR:=RmG.of hh hrm
 have hG:=hR.gg hg
 have h60:=hG.n
 obtain ⟨i0,hi0⟩:=Zn hg
 have hi0l:=(Ze.1 hi0).1
 have hgr:=(hR i0 g hi0).2
 have hgb : g.room = (i0 : Int) + 1:=hgr
 have w0 : IntKind.i64.wrap (g.room - 1) = (i0 : Int):=by rw [wrap_id (by omega) (by omega)]; omega
 have hkl:=(Ze.1 hk).1
 have hOK : EvOK e:=hG.ok.1.2 e (List.mem_of_getElem? hk)
 have hhb:=c_l08Hidden (P:=P) h hh hr g e.id hg
 rw [hid_same hh hr hg] at hhb
 have hge : (atE g.events e.id).getD zE = e:=by rw [ha]; rfl
 have fin : ∀ (b : Bool) (e1 : Ev),hidB h g e e.id = b → e1 = (if b then noText e else e) → shE h g e.id = (e1,b):=fun b e1 h1 h2=>by
  unfold shE
  simp only [hge]
  rw [h1,h2]; cases b <;> rfl
 have hpos0 : 0 ≤ hidI h g e.id:=by rw [← hid_same hh hr hg]; exact hidS_nn hh hr hg _
 have hgt : decide (hidI h g e.id > 0) = (hidI h g e.id != 0):=by
  by_cases hq : hidI h g e.id = 0
  ·rw [hq]; rfl
  ·rw [decide_eq_true (by omega)]; exact (bne_iff_ne.2 hq).symm
 have hwr:=wV_ref (fun _=>False) h
 refine Con.of (n:=43) (rs:=[.cell 6 46]) (Is.fn Tryz.func59) rfl (Is.call Tryz.call59) Tryz.results59 Tryz.ntmps59 (encSh_ref1 _ _) ?_
 simp only [method_specs_simp,seval,wV,wRow]
 simp only [method_specs_simp,seval,wV,wRow,w0,hi0,encGr]
 refine ⟨by omega,by omega,?_⟩
 simp only [method_specs_simp,seval,wV,wRow,hk]
 refine ⟨by omega,by omega,?_⟩
 refine clY.con (c_l02Copy e hOK) ⟨encEv_ref1 _ e,trivial⟩ ?_
 simp only [method_specs_simp,seval,wV,wRow,encEv]
 cases k7 : e.kind == 7 with
 | true =>
  simp only [method_specs_simp,seval,wV,wRow]
  refine clY.con hhb ⟨hwr,trivial,trivial,trivial⟩ ?_
  cases hq : hidI h g e.id != 0 with
  | true =>
   rw [fin true (noText e) (by unfold hidB; rw [k7,hq]; rfl) rfl]
   simp only [method_specs_simp,seval,wV,wRow,hgt,hq,encSh,encEv,noText]
  | false =>
   rw [fin false e (by unfold hidB; rw [k7,hq]; rfl) rfl]
   simp only [method_specs_simp,seval,wV,wRow,hgt,hq,encSh,encEv]
 | false =>
  simp only [method_specs_simp,seval,wV,wRow]
  cases k4 : e.kind == 4 with
  | true =>
   simp only [method_specs_simp,seval,wV,wRow]
   refine clY.con hhb ⟨hwr,trivial,trivial,trivial⟩ ?_
   cases hq : hidI h g e.id != 0 with
   | true =>
    rw [fin true (noText e) (by unfold hidB; rw [k7,k4,hq]; rfl) rfl]
    simp only [method_specs_simp,seval,wV,wRow,hgt,hq,encSh,encEv,noText]
   | false =>
    rw [fin false e (by unfold hidB; rw [k7,k4,hq]; rfl) rfl]
    simp only [method_specs_simp,seval,wV,wRow,hgt,hq,encSh,encEv]
  | false =>
   rw [fin false e (by unfold hidB; rw [k7,k4]; rfl) rfl]
   simp only [method_specs_simp,seval,wV,wRow,encSh,encEv]
theorem pos_has {h : Hb} (hh : HbOK h) (hr : rightS h = true) {g : Gr} (hg : g ∈ h.rooms) {id : Int} (hn : Gm.hasId g.events id = false) : posS h.stream ⟨g.room,id⟩ = 0:=by
 obtain ⟨hnd,h120,h3,hrm⟩:=right_nd hr
 have hR:=RmG.of hh hrm
 refine posS_zero ?_
 rw [← Bool.not_eq_true,List.contains_iff_mem]
 intro hx
 have hri : rightI h = true:=by rw [right_same hh]; exact hr
 unfold rightI at hri
 simp only [Zm] at hri
 obtain ⟨i,hi⟩:=Zn hx
 obtain ⟨_,g',hg',e,he,_,hq,_⟩:=okSp_acc hR h3 (stOK_at.1 hri.2.2.2.1 i _ hi)
 have hrm2 : g.room = g'.room:=congrArg Sp.room hq
 have hid2 : id = e.id:=congrArg Sp.id hq
 have:=hR.same hg' hg hrm2.symm
 subst this
 have : Gm.hasId g'.events id = true:=by rw [hid2]; exact Gm.hasId_iff.2 ⟨e,he,rfl⟩
 rw [this] at hn; cases hn
theorem c_sShownOf (h : Hb) (x : Sp) (hh : HbOK h) : Con P 24 [.agg (encHb h),.int .i64 x.room,.int .i64 x.id] (if visB h x then .agg (encSh (shE h (gAt h.rooms x.room) x.id)) else .agg zSh):=by
 have hns:=c_l07Right (P:=P) h hh
 refine Con.of (n:=53) (rs:=[.cell 6 46]) (Is.fn Tryz.func24) rfl (Is.call Tryz.call24) Tryz.results24 Tryz.ntmps24 (shR_ref _ _ _) ?_
 simp only [method_specs_simp,seval,encHb]
 refine clY.con hns (by simp only [method_specs_simp,encHb]) ?_
 unfold visB rtR
 cases hr : rightS h with
 | true =>
  rw [if_pos rfl,Zo]
  simp only [method_specs_simp,seval,encHb]
  refine clY.con (c_l08Room x.room) ⟨trivial,trivial⟩ ?_
  cases hb2 : Gm.isB x.room 1 3 with
  | true =>
   obtain ⟨g1,g2⟩:=gAt_in hh hr hb2
   obtain ⟨hnd,h120,h3,hrm⟩:=right_nd hr
   have hR:=RmG.of hh hrm
   generalize gAt h.rooms x.room = g at *
   have hG:=hR.gg g1
   have h60:=hG.n
   obtain ⟨i0,hi0⟩:=Zn g1
   have hi0l:=(Ze.1 hi0).1
   have hgr:=(hR i0 g hi0).2
   have hgb : x.room = (i0 : Int) + 1:=by rw [← g2]; exact hgr
   have w0 : IntKind.i64.wrap (x.room - 1) = (i0 : Int):=by rw [wrap_id (by omega) (by omega)]; omega
   have hpr : h.rooms[i0]?.map (pRow1 h.stream) = some [V.sl 1 ((posL h.stream g).map encI)]:=by rw [hi0]; rfl
   have hpll : (posL h.stream g).length = g.events.length:=posL_len _ _
   rw [Zo]
   simp only [method_specs_simp,seval,encHb,w0,hi0,encGr]
   refine ⟨by omega,by omega,?_⟩
   refine clY.con (c_l03At g.events x.id (by omega)) (by simp only [method_specs_simp,encHb]) ?_
   simp only [method_specs_simp,seval,encHb]
   cases hid : Gm.hasId g.events x.id with
   | false =>
    have hz:=pos_has hh hr g1 hid
    rw [g2] at hz
    have hz2 : (posS h.stream x == 0) = true:=by simpa using hz
    rw [atI_no hid,hz2]
    simp only [method_specs_simp,seval,encHb,zSh,zEv]
   | true =>
    obtain ⟨e,h1,h2⟩:=Gm.fid_get hid
    have hn : decide (((Gm.fidE g.events x.id : Nat) : Int) < 0) = false:=decide_eq_false (by omega)
    have hpo:=posL_get h.stream h1
    have hsh:=c_l08Shown (P:=P) h hh hr g _ e g1 h1 (by rw [h2,← fid_at hid,h1])
    rw [g2,h2] at hsh
    rw [g2,h2] at hpo
    rw [atI_yes hid]
    simp only [method_specs_simp,seval,encHb,hn,w0,wV,wRow,hpr,hpo,encI]
    have hfl:=Gm.fid_lt hid
    have exx : (⟨x.room,x.id⟩ : Sp) = x:=rfl
    rw [exx]
    refine ⟨by omega,by omega,by omega,by omega,?_⟩
    simp only [wV,wRow] at hsh
    have hwr:=wV_ref (fun _=>False) h
    cases hz2 : posS h.stream x == 0 with
    | true =>
     simp only [method_specs_simp,seval,encHb,zSh,zEv]
    | false =>
     simp only [method_specs_simp,seval,encHb]
     refine clY.con hsh ⟨hwr,trivial,trivial,trivial⟩ ?_
     simp only [method_specs_simp,seval,encHb,encSh,encEv]
  | false =>
   rw [Zu,if_neg (by decide)]
   simp only [method_specs_simp,seval,encHb,zSh,zEv]
 | false =>
  rw [if_neg (by decide),Zu,Zu,if_neg (by decide)]
  simp only [method_specs_simp,seval,encHb,zSh,zEv]
end
theorem obHb_two (h : Hb) (a b : Ob) (L : List Ob) : (a :: b :: (obHb 2 h ++ L))[2 + (lenGs h.rooms + 1)]? = some (.arr true 2 (h.stream.map encSp)):=by
 have:=LiesH.mk (A:=[a,b]) (b:=2) (h:=h) (C:=L) rfl rfl (lenGs h.rooms + 1) (.arr true 2 (h.stream.map encSp)) (by
  unfold obHb
  rw [Zf (by rw [obGs_len]; omega),obGs_len,Zg]; rfl)
 exact this
theorem clY.segH2 {P : Program} {f : FuncId} {a b : Ob} {G L : List Ob} {rest : List V} {h h' : Hb} {r : V} {K KL : V → List Ob → Prop} (hG : G = obHb 2 h) (hc : LCon P f (.agg (hubV 0 h) :: rest) (obHb 0 h) r (obHb 0 h')) (hl : hLen h' = hLen h)
  (hr : Ref (fun _=>False) r) (hrest : Refs (fun _=>False) rest) (hcv : ∀ m,convs m rest = rest)
  (k : KL r (a :: b :: (obHb 2 h' ++ L))) : @clY P (.fn f [] []) (.agg (hubV 2 h) :: rest) (a :: b :: (G ++ L)) ⟨K,KL⟩:=by
 subst hG
 exact clY.segH (A:=[a,b]) hc hl hr hrest hcv k
theorem dcv_rowSh {m : List Ob} {q : Nat} {x : Ev × Bool} (h : m[q]? = some (obI x.1)) : (rowSh q x).map (dcv 1 m) = encSh x:=by
 unfold rowSh encSh
 rw [List.map_append,dcv_row h]; rfl
theorem dcv_sh {m : List Ob} {q : Nat} {x : Ev × Bool} (h : m[q]? = some (obI x.1)) : dcv 2 m (.agg (rowSh q x)) = .agg (encSh x):=by
 show V.agg ((rowSh q x).map (dcv 1 m)) = _
 rw [dcv_rowSh h]
theorem dcv_encSh (m : List Ob) (n : Nat) (x : Ev × Bool) : dcv (n + 2) m (.agg (encSh x)) = .agg (encSh x):=rfl
theorem clY.atSh {P : Program} {f : FuncId} {q : Nat} {rest : List V} {m : List Ob} {x : Ev × Bool} {zs' : List (List V)} {r : V} {K KL : V → List Ob → Prop} (h : LCon P f (.agg (rowSh 0 x) :: rest) [obI x.1] r [.arr true 1 zs'])
  (hq : m[q]? = some (obI x.1)) (hp' : (Ob.arr true 1 zs').pure) (hr : Ref (fun _=>False) r) (hrest : Refs (fun _=>False) rest) (hcv : ∀ m,convs m rest = rest)
  (k : KL r (m.set q (.arr true 1 zs'))) : @clY P (.fn f [] []) (.agg (rowSh q x) :: rest) m ⟨K,KL⟩:=by
 have hlt:=(Ze.1 hq).1
 have hp : (obI x.1).pure:=pure_ints _ _
 have hl : (m.take q).length = q:=by rw [List.length_take]; omega
 have hx : (m.drop q) = obI x.1 :: m.drop (q + 1):=by rw [List.drop_eq_getElem_cons hlt,(Ze.1 hq).2]
 refine clY.seg (A:=m.take q) (B:=[obI x.1]) (B':=[.arr true 1 zs']) (C:=m.drop (q + 1)) h rfl (fun ob ho=>?_) (fun ob ho=>?_) ⟨⟨trivial,trivial,trivial,trivial,trivial,trivial,trivial,Nat.zero_lt_one,trivial,trivial,trivial⟩,Refs.mono (fun _ h=>h.elim) _ hrest⟩ (Ref.mono (fun _ h=>h.elim) _ hr) ?_ ?_ ?_ ?_
 ·rw [Zh] at ho; subst ho; exact ⟨obI_refs _ _,rfl⟩
 ·rw [Zh] at ho; subst ho; exact Refss.mono (fun _ h=>h.elim) _ hp'
 ·rw [Zq,Ob.ren_pure _ hp,Zc,Zz,← hx,List.take_append_drop]
 ·simp only [rowSh,rowEv,Zb,rens,V.ren,hl,Zl,rens_pure _ hrest,Za,Zj]
 ·simp only [Za,Zj,Zb,convs,hcv,rowSh,rowEv,conv,hq,obI]
 ·rw [V.ren_pure _ hr,Zq,Ob.ren_pure _ hp',Zc,Zz]
  have : m.take q ++ .arr true 1 zs' :: m.drop (q + 1) = m.set q (.arr true 1 zs'):=by
   apply List.ext_getElem?
   intro j
   rw [List.getElem?_append,List.getElem?_set,hl,List.getElem?_take]
   by_cases h1 : j < q
   ·rw [if_pos h1,if_pos h1,if_neg (by omega)]
   ·rw [if_neg h1]
    by_cases h2 : q = j
    ·subst h2
     rw [if_pos rfl,if_pos hlt,Zg]; rfl
    ·rw [if_neg h2,show j - q = (j - q - 1) + 1 by omega,Zy,List.getElem?_drop]
     congr 1; omega
  rw [this]; exact k
section
variable {P : Program} [Is P]
theorem c_eqShown (x : Ev × Bool) (he : EvOK x.1) : Con P 26 [.agg (encSh x),.agg (encSh x)] (.bool true):=by
 have e5 : ∀ a : Bool,(a != a) = false:=fun a=>by simp
 refine Con.of (n:=16) (rs:=[.tmp 4]) (Is.fn Tryz.func26) rfl (Is.call Tryz.call26) Tryz.results26 Tryz.ntmps26 trivial ?_
 simp only [method_specs_simp,seval]
 simp only [method_specs_simp,seval,encSh,encEv]
 refine clY.con (c_eqEvent x.1 he) ⟨encEv_ref1 _ x.1,encEv_ref1 _ x.1,trivial⟩ ?_
 simp only [method_specs_simp,seval,e5,encSh,encEv]
theorem n_markShown (x : Ev × Bool) (k : Int) (h0 : 0 ≤ k) (h1 : k < 2 ^ 58) (he : EvOK x.1) : LCon P 27 [.agg (rowSh 0 x),.int .i64 k] [obI x.1] (.int .i64 (k + x.1.prev.length)) [.arr true 1 ((mInts k x.1.prev.length).map encI)]:=by
 have he2:=he.2
 refine LCon.of (n:=10) (rs:=[.tmp 4]) (Is.fn Tryz.func27) rfl (Is.call Tryz.call27) Tryz.results27 Tryz.ntmps27 ?_
 simp only [method_specs_simp,seval,rowSh,rowEv,obI]
 refine clY.live [0] [] (n_markEvent x.1 k h0 h1 he) ?_ (by simp) ?_
 ·simp only [mvcgen_simp,method_specs_simp,seval,rowSh,rowEv,obI,rowEv,obI]
 simp only [method_specs_simp,seval,rowSh,rowEv,obI]
 refine LResY.mk [0] ?_
 simp only [mvcgen_simp,method_specs_simp,seval,rowSh,rowEv,obI]
theorem c_heldShown (x : Ev × Bool) (k : Int) (n : Nat) (h0 : 0 ≤ k) (h1 : k < 2 ^ 58) (hn : n < 2 ^ 58) (he : x.1.prev = mInts k n) : Con P 28 [.agg (encSh x),.int .i64 k] (.int .i64 (k + n)):=by
 have hh : decide (k + (n : Int) < 0) = false:=by simp; omega
 refine Con.of (n:=12) (rs:=[.tmp 4]) (Is.fn Tryz.func28) rfl (Is.call Tryz.call28) Tryz.results28 Tryz.ntmps28 trivial ?_
 simp only [method_specs_simp,seval]
 simp only [method_specs_simp,seval,encSh,encEv]
 refine clY.con (c_heldEvent x.1 k n h0 h1 hn he) ⟨encEv_ref1 _ x.1,trivial,trivial⟩ ?_
 simp only [method_specs_simp,seval,hh]
theorem VLe.zSh : VLes zSh (encSh (zE,false)):=VLes.same (VLes.same (VLes.same (VLes.same (VLes.same (VLes.same (VLes.same (VLes.cons (VLe.nil 1) (VLes.same (VLes.same VLes.nil)))))))))
theorem c_eqShZ : Con P 26 [.agg zSh,.agg zSh] (.bool true):=(c_eqShown (zE,false) zE_ok).weak (VLes.cons (VLe.agg VLe.zSh) (VLes.cons (VLe.agg VLe.zSh) VLes.nil))
theorem c_heldShZ (k : Int) (h0 : 0 ≤ k) (h1 : k < 2 ^ 58) : Con P 28 [.agg zSh,.int .i64 k] (.int .i64 k):=by
 have h:=c_heldShown (P:=P) (zE,false) k 0 h0 h1 (by decide) rfl
 rw [show k + ((0 : Nat) : Int) = k by omega] at h
 exact h.weak (VLes.cons (VLe.agg VLe.zSh) (VLes.same VLes.nil))
theorem c_markShZ (k : Int) : Con P 27 [.agg zSh,.int .i64 k] (.int .i64 k):=by
 refine Con.of (n:=10) (rs:=[.tmp 4]) (Is.fn Tryz.func27) rfl (Is.call Tryz.call27) Tryz.results27 Tryz.ntmps27 trivial ?_
 simp only [method_specs_simp,seval,zSh,zEv]
 refine clY.con (c_markEvZ k) (by simp only [method_specs_simp,zEv]) ?_
 simp only [method_specs_simp,seval,zSh,zEv]
theorem sh_law (h : Hb) (room id : Int) (x : Ev × Bool) (hh : HbOK h) (he : EvOK x.1) (h46 : Con P 24 [.agg (encHb h),.int .i64 room,.int .i64 id] (.agg (encSh x))) (h47 : LCon P 25 [.agg (encHb h),.int .i64 room,.int .i64 id] [] (.agg (rowSh 0 x)) [obI x.1]) :
  Con P 7 [.agg (encHb h),.int .i64 room,.int .i64 id] (.bool true):=by
 refine Con.of (n:=79) (rs:=[.tmp 6]) (Is.fn Tryz.func7) rfl (Is.call Tryz.call7) Tryz.results7 Tryz.ntmps7 trivial ?_
 simp only [method_specs_simp,seval]
 refine clY.con (c_szHub h 1048576 (by decide) (by decide) hh) (by simp only [method_specs_simp]) ?_
 simp only [method_specs_simp,seval]
 refine gB_split (fun _=>trivial) (fun w1=>?_)
 obtain ⟨q1,q2,q3⟩:=sb_yes (wH_nn h) w1
 refine clY.con (c_toHub h hh) (by simp only [method_specs_simp]) ?_
 simp only [method_specs_simp,seval]
 refine clY.con (h46) (by simp only [method_specs_simp]) ?_
 simp only [method_specs_simp,seval,encSh,encEv]
 refine clY.newD 0 (n_toHub h hh) (dcv_zero _ _) (by simp only [method_specs_simp]) (hubV_flat 0 h) (obHb_flat 0 h) ?_
 obtain ⟨G,hG⟩ : ∃ G,G = obHb 2 h:=⟨_,rfl⟩
 obtain ⟨N,hN⟩ : ∃ N,N = hLen h:=⟨_,rfl⟩
 have hp : Past G N:=Past.mk' (by rw [hG,hN,obHb_len])
 have hA1 : ∀ L : List Ob,(G ++ L)[0]? = some (.arr true 3 (rowsGr 3 h.rooms)):=fun L=>by rw [hG]; rfl
 have hA2 : ∀ (a b : Ob) (L : List Ob),(a :: b :: (G ++ L))[2 + (lenGs h.rooms + 1)]? = some (.arr true 2 (h.stream.map encSp)):=fun a b L=>by
  rw [hG]; exact obHb_two h a b L
 simp only [method_specs_simp,seval,hp.len,hp.g0,hp.g,hp.b0,hp.b,hp.v0,hp.v,hp.a0,hp.a,hp.w0,hp.w,hp.s0,hp.s,Zc,Zb,Za,obHb_ren,hubV,← hG,hA1,hA2]
 have hL : ∀ (a b : Ob) (L : List Ob),LiesH (a :: b :: (G ++ L)) 2 h:=fun a b L=>LiesH.mk (A:=[a,b]) rfl (by rw [hG]; rfl)
 have hrow : ∀ (q : Nat) (m : List Ob),m[q]? = some (obI x.1) → (rowSh q x).map (dcv 1 m) = encSh x:=fun q m h=>dcv_rowSh h
 refine clY.newD 4 h47 ?_ ⟨encHb_ref1 _ h,trivial,trivial,trivial⟩ ?_ (flat1 ⟨rfl,flat_ints _⟩) ?_
 ·show [dcv 4 _ (.agg (hubV 2 h)),dcv 4 _ (.int .i64 room),dcv 4 _ (.int .i64 id)] = _
  rw [(hL _ _ _).dcv]; rfl
 ·exact rowSh_flat 0 x
 simp only [method_specs_simp,seval,hp.len,hp.g0,hp.g,hp.b0,hp.b,hp.v0,hp.v,hp.a0,hp.a,hp.w0,hp.w,hp.s0,hp.s,Zc,Zb,Za,rowSh,rowEv,obI_ren]
 have hI : ∀ ob : Ob,obI x.1 = ob → (match some ob with | some (Ob.arr lv sz xs)=>true | x=>false) = true:=fun ob h=>by rw [← h]; rfl
 refine ⟨hI _ rfl,?_⟩
 refine clY.conD 2 (c_eqShown x he) ?_ ⟨encSh_ref1 _ x,encSh_ref1 _ x,trivial⟩ trivial ?_
 ·show [dcv 2 _ (.agg (rowSh (N + 3) x)),dcv 2 _ (.agg (encSh x))] = _
  rw [dcv_sh,dcv_encSh]
  simp only [method_specs_simp,seval,hp.len,hp.g0,hp.g,hp.b0,hp.b,hp.v0,hp.v,hp.a0,hp.a,hp.w0,hp.w,hp.s0,hp.s,Zc,Zb,Za]
 simp only [method_specs_simp,seval,hp.len,hp.g0,hp.g,hp.b0,hp.b,hp.v0,hp.v,hp.a0,hp.a,hp.w0,hp.w,hp.s0,hp.s,Zc,Zb,Za]
 refine ⟨by kernel_rfl,?_⟩
 refine clY.con (c_toHub h hh) (by simp only [method_specs_simp,hp.len,hp.g0,hp.g,hp.b0,hp.b,hp.v0,hp.v,hp.a0,hp.a,hp.w0,hp.w,hp.s0,hp.s,Zc,Zb,Za]) ?_
 simp only [method_specs_simp,seval,hp.len,hp.g0,hp.g,hp.b0,hp.b,hp.v0,hp.v,hp.a0,hp.a,hp.w0,hp.w,hp.s0,hp.s,Zc,Zb,Za]
 refine clY.conD 4 (c_eqHub h hh) ?_ ⟨encHb_ref1 _ h,encHb_ref1 _ h,trivial⟩ trivial ?_
 ·show [dcv 4 _ (.agg (hubV 2 h)),dcv 4 _ (.agg (encHb h))] = _
  rw [(hL _ _ _).dcv,dcv_encH]
 simp only [method_specs_simp,seval,hp.len,hp.g0,hp.g,hp.b0,hp.b,hp.v0,hp.v,hp.a0,hp.a,hp.w0,hp.w,hp.s0,hp.s,Zc,Zb,Za,Zd]
 have b1:=wMH_le h
 have b2:=wMH_nn h
 have hk : decide (1 + wMH h < 0) = false:=decide_eq_false (by omega)
 refine clY.segH2 hG (n_markHub h 1 (by decide) (by decide) hh (by omega)) (mHb_hLen 1 h) trivial ⟨trivial,trivial⟩ (fun m=>by simp only [convs,conv]) ?_
 obtain ⟨G2,hG2⟩ : ∃ G2,G2 = obHb 2 (mHb 1 h):=⟨_,rfl⟩
 have hp2 : Past G2 N:=Past.mk' (by rw [hG2,hN,obHb_len]; exact mHb_hLen 1 h)
 rw [← hG2]
 simp only [method_specs_simp,seval,hk,hp2.len,hp2.g0,hp2.g,hp2.b0,hp2.b,hp2.v0,hp2.v,hp2.a0,hp2.a,hp2.w0,hp2.w,hp2.s0,hp2.s,Zc,Zb,Za]
 refine clY.conD 2 (c_eqShown x he) ?_ ⟨encSh_ref1 _ x,encSh_ref1 _ x,trivial⟩ trivial ?_
 ·show [dcv 2 _ (.agg (rowSh (N + 3) x)),dcv 2 _ (.agg (encSh x))] = _
  rw [dcv_sh,dcv_encSh]
  simp only [method_specs_simp,seval,hk,hp2.len,hp2.g0,hp2.g,hp2.b0,hp2.b,hp2.v0,hp2.v,hp2.a0,hp2.a,hp2.w0,hp2.w,hp2.s0,hp2.s,Zc,Zb,Za]
 simp only [method_specs_simp,seval,hk,hp2.len,hp2.g0,hp2.g,hp2.b0,hp2.b,hp2.v0,hp2.v,hp2.a0,hp2.a,hp2.w0,hp2.w,hp2.s0,hp2.s,Zc,Zb,Za]
 have he2:=he.2
 refine clY.atSh (q:=N + 3) (n_markShown x 1 (by decide) (by decide) he) ?_ (pure_ints _ _) trivial ⟨trivial,trivial⟩ (fun m=>by simp only [convs,conv]) ?_
 ·simp only [method_specs_simp,seval,hk,hp2.len,hp2.g0,hp2.g,hp2.b0,hp2.b,hp2.v0,hp2.v,hp2.a0,hp2.a,hp2.w0,hp2.w,hp2.s0,hp2.s,Zc,Zb,Za]
 obtain ⟨e2,hx2⟩ : ∃ e2 : Ev × Bool,e2 = (⟨x.1.id,x.1.room,x.1.author,x.1.kind,x.1.key,x.1.n,x.1.text,mInts 1 x.1.prev.length,x.1.time⟩,x.2):=⟨_,rfl⟩
 have hx3 : e2.1.prev.length = x.1.prev.length:=by rw [hx2]; exact mInts_len _ _
 have hrow2 : ∀ q,rowSh q e2 = [V.int .i64 x.1.id,V.int .i64 x.1.room,V.int .i64 x.1.author,V.int .i64 x.1.kind,V.int .i64 x.1.key,V.int .i64 x.1.n,V.str x.1.text,V.ar q 0 x.1.prev.length,V.int .i64 x.1.time,V.bool x.2]:=fun q=>by
  unfold rowSh rowEv; rw [hx3,hx2]; rfl
 have hob2 : Ob.arr true 1 ((mInts 1 x.1.prev.length).map encI) = obI e2.1:=by rw [hx2]; rfl
 rw [hob2]
 have hhe:=c_heldShown (P:=P) e2 1 x.1.prev.length (by decide) (by decide) (by omega) (by rw [hx2])
 have hk2 : decide (1 + (x.1.prev.length : Int) < 0) = false:=decide_eq_false (by omega)
 simp only [method_specs_simp,seval,hk2,bne_self_eq_false,Zd,hp2.len,hp2.g0,hp2.g,hp2.b0,hp2.b,hp2.v0,hp2.v,hp2.a0,hp2.a,hp2.w0,hp2.w,hp2.s0,hp2.s,Zc,Zb,Za]
 refine clY.conD 2 hhe ?_ ⟨encSh_ref1 _ e2,trivial,trivial⟩ trivial ?_
 ·rw [← hrow2]
  show [dcv 2 _ (.agg (rowSh (N + 3) e2)),dcv 2 _ (.int .i64 1)] = _
  rw [dcv_sh]
  rfl
  simp only [method_specs_simp,seval,hk2,bne_self_eq_false,Zd,hp2.len,hp2.g0,hp2.g,hp2.b0,hp2.b,hp2.v0,hp2.v,hp2.a0,hp2.a,hp2.w0,hp2.w,hp2.s0,hp2.s,Zc,Zb,Za]
 simp only [method_specs_simp,seval,hk2,bne_self_eq_false,Zd,hp2.len,hp2.g0,hp2.g,hp2.b0,hp2.b,hp2.v0,hp2.v,hp2.a0,hp2.a,hp2.w0,hp2.w,hp2.s0,hp2.s,Zc,Zb,Za]
 refine clY.con (c_toHub h hh) (by simp only [method_specs_simp,hk2,bne_self_eq_false,Zd,hp2.len,hp2.g0,hp2.g,hp2.b0,hp2.b,hp2.v0,hp2.v,hp2.a0,hp2.a,hp2.w0,hp2.w,hp2.s0,hp2.s,Zc,Zb,Za]) ?_
 simp only [method_specs_simp,seval,hk2,bne_self_eq_false,Zd,hp2.len,hp2.g0,hp2.g,hp2.b0,hp2.b,hp2.v0,hp2.v,hp2.a0,hp2.a,hp2.w0,hp2.w,hp2.s0,hp2.s,Zc,Zb,Za]
 refine clY.newD 0 h47 (dcv_zero _ _) ⟨encHb_ref1 _ h,trivial,trivial,trivial⟩ ?_ (flat1 ⟨rfl,flat_ints _⟩) ?_
 ·exact rowSh_flat 0 x
 simp only [method_specs_simp,seval,hk2,bne_self_eq_false,Zd,hp2.len,hp2.g0,hp2.g,hp2.b0,hp2.b,hp2.v0,hp2.v,hp2.a0,hp2.a,hp2.w0,hp2.w,hp2.s0,hp2.s,Zc,Zb,Za,rowSh,rowEv,obI_ren]
 refine ⟨hI _ rfl,?_⟩
 refine clY.conD 2 (c_eqShown x he) ?_ ⟨encSh_ref1 _ x,encSh_ref1 _ x,trivial⟩ trivial ?_
 ·show [dcv 2 _ (.agg (rowSh (N + 5) x)),dcv 2 _ (.agg (encSh x))] = _
  rw [dcv_sh,dcv_encSh]
  simp only [method_specs_simp,seval,hk2,bne_self_eq_false,Zd,hp2.len,hp2.g0,hp2.g,hp2.b0,hp2.b,hp2.v0,hp2.v,hp2.a0,hp2.a,hp2.w0,hp2.w,hp2.s0,hp2.s,Zc,Zb,Za]
 simp only [method_specs_simp,seval,hk2,bne_self_eq_false,Zd,hp2.len,hp2.g0,hp2.g,hp2.b0,hp2.b,hp2.v0,hp2.v,hp2.a0,hp2.a,hp2.w0,hp2.w,hp2.s0,hp2.s,Zc,Zb,Za]
 refine clY.conD 2 hhe ?_ ⟨encSh_ref1 _ e2,trivial,trivial⟩ trivial ?_
 ·rw [← hrow2]
  show [dcv 2 _ (.agg (rowSh (N + 3) e2)),dcv 2 _ (.int .i64 1)] = _
  rw [dcv_sh]
  rfl
  simp only [method_specs_simp,seval,hk2,bne_self_eq_false,Zd,hp2.len,hp2.g0,hp2.g,hp2.b0,hp2.b,hp2.v0,hp2.v,hp2.a0,hp2.a,hp2.w0,hp2.w,hp2.s0,hp2.s,Zc,Zb,Za]
 simp only [method_specs_simp,seval,hk2,bne_self_eq_false,Zd,hp2.len,hp2.g0,hp2.g,hp2.b0,hp2.b,hp2.v0,hp2.v,hp2.a0,hp2.a,hp2.w0,hp2.w,hp2.s0,hp2.s,Zc,Zb,Za]
theorem sh_lawZ (h : Hb) (room id : Int) (hh : HbOK h) (h46 : Con P 24 [.agg (encHb h),.int .i64 room,.int .i64 id] (.agg zSh)) (h47 : Con P 25 [.agg (encHb h),.int .i64 room,.int .i64 id] (.agg zSh)) :
  Con P 7 [.agg (encHb h),.int .i64 room,.int .i64 id] (.bool true):=by
 refine Con.of (n:=79) (rs:=[.tmp 6]) (Is.fn Tryz.func7) rfl (Is.call Tryz.call7) Tryz.results7 Tryz.ntmps7 trivial ?_
 simp only [method_specs_simp,seval]
 refine clY.con (c_szHub h 1048576 (by decide) (by decide) hh) (by simp only [method_specs_simp]) ?_
 simp only [method_specs_simp,seval]
 refine gB_split (fun _=>trivial) (fun w1=>?_)
 obtain ⟨q1,q2,q3⟩:=sb_yes (wH_nn h) w1
 refine clY.con (c_toHub h hh) (by simp only [method_specs_simp]) ?_
 simp only [method_specs_simp,seval]
 refine clY.con (h46) (by simp only [method_specs_simp]) ?_
 simp only [method_specs_simp,seval,zSh,zEv]
 refine clY.newD 0 (n_toHub h hh) (dcv_zero _ _) (by simp only [method_specs_simp]) (hubV_flat 0 h) (obHb_flat 0 h) ?_
 obtain ⟨G,hG⟩ : ∃ G,G = obHb 2 h:=⟨_,rfl⟩
 obtain ⟨N,hN⟩ : ∃ N,N = hLen h:=⟨_,rfl⟩
 have hp : Past G N:=Past.mk' (by rw [hG,hN,obHb_len])
 have hA1 : ∀ L : List Ob,(G ++ L)[0]? = some (.arr true 3 (rowsGr 3 h.rooms)):=fun L=>by rw [hG]; rfl
 have hA2 : ∀ (a b : Ob) (L : List Ob),(a :: b :: (G ++ L))[2 + (lenGs h.rooms + 1)]? = some (.arr true 2 (h.stream.map encSp)):=fun a b L=>by
  rw [hG]; exact obHb_two h a b L
 simp only [method_specs_simp,seval,hp.len,hp.g0,hp.g,hp.b0,hp.b,hp.v0,hp.v,hp.a0,hp.a,hp.w0,hp.w,hp.s0,hp.s,Zc,Zb,Za,obHb_ren,hubV,← hG,hA1,hA2]
 have hL : ∀ (a b : Ob) (L : List Ob),LiesH (a :: b :: (G ++ L)) 2 h:=fun a b L=>LiesH.mk (A:=[a,b]) rfl (by rw [hG]; rfl)
 refine clY.conD 4 h47 ?_ ⟨encHb_ref1 _ h,trivial,trivial,trivial⟩ ⟨trivial,trivial,trivial,trivial,trivial,trivial,trivial,trivial,trivial,trivial,trivial⟩ ?_
 ·show [dcv 4 _ (.agg (hubV 2 h)),dcv 4 _ (.int .i64 room),dcv 4 _ (.int .i64 id)] = _
  rw [(hL _ _ _).dcv]; rfl
 simp only [method_specs_simp,seval,hp.len,hp.g0,hp.g,hp.b0,hp.b,hp.v0,hp.v,hp.a0,hp.a,hp.w0,hp.w,hp.s0,hp.s,Zc,Zb,Za,zSh,zEv]
 refine clY.con c_eqShZ (by simp only [method_specs_simp,zSh,zEv]) ?_
 simp only [method_specs_simp,seval,hp.len,hp.g0,hp.g,hp.b0,hp.b,hp.v0,hp.v,hp.a0,hp.a,hp.w0,hp.w,hp.s0,hp.s,Zc,Zb,Za]
 refine ⟨by kernel_rfl,?_⟩
 refine clY.con (c_toHub h hh) (by simp only [method_specs_simp,hp.len,hp.g0,hp.g,hp.b0,hp.b,hp.v0,hp.v,hp.a0,hp.a,hp.w0,hp.w,hp.s0,hp.s,Zc,Zb,Za]) ?_
 simp only [method_specs_simp,seval,hp.len,hp.g0,hp.g,hp.b0,hp.b,hp.v0,hp.v,hp.a0,hp.a,hp.w0,hp.w,hp.s0,hp.s,Zc,Zb,Za]
 refine clY.conD 4 (c_eqHub h hh) ?_ ⟨encHb_ref1 _ h,encHb_ref1 _ h,trivial⟩ trivial ?_
 ·show [dcv 4 _ (.agg (hubV 2 h)),dcv 4 _ (.agg (encHb h))] = _
  rw [(hL _ _ _).dcv,dcv_encH]
 simp only [method_specs_simp,seval,hp.len,hp.g0,hp.g,hp.b0,hp.b,hp.v0,hp.v,hp.a0,hp.a,hp.w0,hp.w,hp.s0,hp.s,Zc,Zb,Za,Zd]
 have b1:=wMH_le h
 have b2:=wMH_nn h
 have hk : decide (1 + wMH h < 0) = false:=decide_eq_false (by omega)
 refine clY.segH2 hG (n_markHub h 1 (by decide) (by decide) hh (by omega)) (mHb_hLen 1 h) trivial ⟨trivial,trivial⟩ (fun m=>by simp only [convs,conv]) ?_
 obtain ⟨G2,hG2⟩ : ∃ G2,G2 = obHb 2 (mHb 1 h):=⟨_,rfl⟩
 have hp2 : Past G2 N:=Past.mk' (by rw [hG2,hN,obHb_len]; exact mHb_hLen 1 h)
 rw [← hG2]
 simp only [method_specs_simp,seval,hk,bne_self_eq_false,Zd,hp2.len,hp2.g0,hp2.g,hp2.b0,hp2.b,hp2.v0,hp2.v,hp2.a0,hp2.a,hp2.w0,hp2.w,hp2.s0,hp2.s,Zc,Zb,Za]
 refine clY.con c_eqShZ (by simp only [method_specs_simp,zSh,zEv]) ?_
 simp only [method_specs_simp,seval,hk,bne_self_eq_false,Zd,hp2.len,hp2.g0,hp2.g,hp2.b0,hp2.b,hp2.v0,hp2.v,hp2.a0,hp2.a,hp2.w0,hp2.w,hp2.s0,hp2.s,Zc,Zb,Za]
 refine clY.con (c_markShZ 1) (by simp only [method_specs_simp,zSh,zEv]) ?_
 simp only [method_specs_simp,seval,hk,bne_self_eq_false,Zd,hp2.len,hp2.g0,hp2.g,hp2.b0,hp2.b,hp2.v0,hp2.v,hp2.a0,hp2.a,hp2.w0,hp2.w,hp2.s0,hp2.s,Zc,Zb,Za]
 refine clY.con (c_heldShZ 1 (by decide) (by decide)) (by simp only [method_specs_simp,zSh,zEv]) ?_
 simp only [method_specs_simp,seval,hk,bne_self_eq_false,Zd,hp2.len,hp2.g0,hp2.g,hp2.b0,hp2.b,hp2.v0,hp2.v,hp2.a0,hp2.a,hp2.w0,hp2.w,hp2.s0,hp2.s,Zc,Zb,Za]
 refine clY.con (c_toHub h hh) (by simp only [method_specs_simp,hk,bne_self_eq_false,Zd,hp2.len,hp2.g0,hp2.g,hp2.b0,hp2.b,hp2.v0,hp2.v,hp2.a0,hp2.a,hp2.w0,hp2.w,hp2.s0,hp2.s,Zc,Zb,Za]) ?_
 simp only [method_specs_simp,seval,hk,bne_self_eq_false,Zd,hp2.len,hp2.g0,hp2.g,hp2.b0,hp2.b,hp2.v0,hp2.v,hp2.a0,hp2.a,hp2.w0,hp2.w,hp2.s0,hp2.s,Zc,Zb,Za]
 refine clY.con (h47) (by simp only [method_specs_simp,hk,bne_self_eq_false,Zd,hp2.len,hp2.g0,hp2.g,hp2.b0,hp2.b,hp2.v0,hp2.v,hp2.a0,hp2.a,hp2.w0,hp2.w,hp2.s0,hp2.s,Zc,Zb,Za]) ?_
 simp only [method_specs_simp,seval,hk,bne_self_eq_false,Zd,hp2.len,hp2.g0,hp2.g,hp2.b0,hp2.b,hp2.v0,hp2.v,hp2.a0,hp2.a,hp2.w0,hp2.w,hp2.s0,hp2.s,Zc,Zb,Za,zSh,zEv]
 refine clY.con c_eqShZ (by simp only [method_specs_simp,zSh,zEv]) ?_
 simp only [method_specs_simp,seval,hk,bne_self_eq_false,Zd,hp2.len,hp2.g0,hp2.g,hp2.b0,hp2.b,hp2.v0,hp2.v,hp2.a0,hp2.a,hp2.w0,hp2.w,hp2.s0,hp2.s,Zc,Zb,Za]
 refine clY.con (c_heldShZ 1 (by decide) (by decide)) (by simp only [method_specs_simp,zSh,zEv]) ?_
 simp only [method_specs_simp,seval,hk,bne_self_eq_false,Zd,hp2.len,hp2.g0,hp2.g,hp2.b0,hp2.b,hp2.v0,hp2.v,hp2.a0,hp2.a,hp2.w0,hp2.w,hp2.s0,hp2.s,Zc,Zb,Za]
theorem shE_ok {h : Hb} (hh : HbOK h) {g : Gr} (hg : g ∈ h.rooms) (id : Int) : EvOK (shE h g id).1:=by
 have:=at_ok (hh.1.2 g hg) id
 unfold shE
 simp only
 split
 ·exact ⟨by simp only [noText]; decide,this.2⟩
 ·exact this
theorem c_FnExactShownOf (h : Hb) (room id : Int) (hh : HbOK h) : Con P 7 [.agg (encHb h),.int .i64 room,.int .i64 id] (.bool true):=by
 have hs:=c_sShownOf (P:=P) h ⟨room,id⟩ hh
 cases hv : visB h ⟨room,id⟩ with
 | true =>
  rw [hv,if_pos rfl] at hs
  have hv2:=hv
  unfold visB at hv2
  simp only [Zm] at hv2
  exact sh_law h room id _ hh (shE_ok hh (gAt_in hh hv2.1.1 hv2.1.2).1 id) hs (n_ShownOf h ⟨room,id⟩ hh hv)
 | false =>
  rw [hv,if_neg (by decide)] at hs
  exact sh_lawZ h room id hh hs (c_ShownOfZ h ⟨room,id⟩ hh hv)
end
end Go.Proofs.YtiafnciiieofmaaGreat
end
section
namespace Go.Proofs.YtiafnciiieofmaaGreat
open Go.Pm
open Go.Gm (Ev Gr)
open Go.ChangeShapes Go.WideShapes Go.ChangeAt Go.RowKit
set_option maxRecDepth 100000
def tSpot : Ty:=.st [.int .i64,.int .i64]
def tSpots : Ty:=.sl 2 16 tSpot
def tGraphs : Ty:=.sl 3 56 tGraph
def tHub : Ty:=.st [tGraphs,tSpots]
theorem in_hub {xs : List V} (h : In tHub xs) : ∃ x : Hb,xs = encHb x ∧ HbOK x:=by
 obtain ⟨_,_,rfl,⟨ra,rfl,hla,hra⟩,_,_,rfl,⟨rb,rfl,hlb,hrb⟩,rfl⟩:=h
 have h0:=reachBytes_lt
 obtain ⟨a,rfl,ha⟩:=list_map_ofG (p:=fun a b=>a = encGr b ∧ GrOK b) (q:=GrOK) (fun _ _ h=>h) fun r hr'=>in_graph (hra r hr')
 obtain ⟨b,rfl,_⟩:=list_map_ofG (p:=fun a b=>a = encSp b) (q:=fun _=>True) (fun _ _ h=>⟨h,trivial⟩) fun r hr'=>by
  obtain ⟨_,_,rfl,⟨n,rfl,_⟩,_,_,rfl,⟨m,rfl,_⟩,rfl⟩:=hrb r hr'
  exact ⟨⟨n,m⟩,rfl⟩
 rw [List.length_map] at hla hlb
 exact ⟨⟨a,b⟩,rfl,⟨by show a.length * 56 ≤ _; omega,ha⟩,by show b.length * 16 ≤ _; omega⟩
theorem ok_hub : OKT Tryz.prog tHub 25:=by
 refine ⟨_,Tryz.underlying25,rfl,⟨_,Tryz.underlying22,ok_graph,?_,?_,?_⟩,rfl,⟨_,Tryz.underlying23,⟨_,Tryz.underlying119,rfl,Tryz.underlying2,rfl,Tryz.underlying2,?_⟩,?_,?_,?_⟩,?_⟩
 all_goals first | kernel_rfl | decide | (show (_ : Nat) = _; kernel_rfl)
end Go.Proofs.YtiafnciiieofmaaGreat
end
section
namespace Go.Proofs.YtiafnciiieofmaaGreat
set_option maxRecDepth 100000
theorem and_mk {a b : Bool} (ha : a = true) (hb : b = true) : (a && b) = true:=by rw [ha,hb]; rfl
theorem p_own : ownKnob Tryz.prog.godebug = none:=by kernel_rfl
theorem p_laid : laidOutB Tryz.prog = true:=by kernel_rfl
theorem p_maps : mapsRowed Tryz.prog = true:=by kernel_rfl
theorem p_stops : (Tryz.prog.stops == []) = true:=by kernel_rfl
theorem p_knobs : (Tryz.prog.stopKnobs == []) = true:=by kernel_rfl
theorem p_keys : (false == Tryz.prog.plainKeys) = true:=by kernel_rfl
theorem p_heard : Tryz.prog.stopsHeard = true:=by kernel_rfl
theorem p_enter : Tryz.prog.mayEnter = true:=by kernel_rfl
end Go.Proofs.YtiafnciiieofmaaGreat
end
