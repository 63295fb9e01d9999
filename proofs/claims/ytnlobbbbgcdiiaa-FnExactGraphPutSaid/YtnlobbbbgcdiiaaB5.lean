/- Calls that put an event into rows that lie anywhere, or take one out. No conditions but lengths. Events put into live lists by id; copies. Conditions: lengths. Graphs copied, with live events. Conditions: lengths. An event put into a graph: the program's. Conditions: lengths. An event put into a graph: the program's export. Conditions: lengths. An event put into a graph: the spec's functions. Conditions: lengths. An event put into a graph: the spec. Conditions: lengths. What a graph and an event come to: compared, marked, held. Conditions: lengths. The law of GraphPut: for every graph and event. No conditions but the sizes that an input has. Closed facts of the whole program that every row asks. No conditions. -/
import Derived.Test.YtnlobbbbgcdiiaaRows
import Derived.WalkKit
import Derived.ProofKit
import Derived.OpenShut
import Derived.ShutString
import Derived.ChangeOld
import Derived.Below
import Derived.SizedLaws
import Derived.Test.YtnlobbbbgcdiiaaB4
set_option linter.unusedSimpArgs false
set_option linter.unusedVariables false
set_option maxRecDepth 10000
set_option maxHeartbeats 4000000
open List renaming getElem?_cons_succ → Za, append_assoc → Zb, cons_append → Zc, nil_append → Zd, getElem?_append_right → Ze, getElem?_eq_some_iff → Zf, getElem?_append_left → Zg, range' → Zh, mem_append → Zi, length_append → Zj, length_cons → Zl, mem_cons → Zm, length_set → Zn, length_map → Zo, getElem?_map → Zp, map_append → Zq, mem_cons_self → Zs, mem_singleton → Zt, nodup_cons → Zv, getElem?_eq_getElem → Zw, map_cons → Zx, mem_append_left → Zy, getD_eq_getElem?_getD → Zz, mem_range'_1 → ZB, nodup_append → ZC, mem_append_right → ZD, mem_of_getElem? → ZE, mem_cons_of_mem → ZF, getElem?_eq_none → ZG, mem_of_mem_take → ZH, mem_of_mem_drop → ZI, take_of_length_le → ZJ, take → ZK, map_take → ZL, map_drop → ZM, length_nil → ZN, getElem?_set_self → ZO, map_congr_left → ZQ, nodup_range' → ZR, length_eraseIdx_of_lt → ZU, not_mem_nil → ZX, mem_map → ZY, drop_zero → ZZ, length_take → Yb, ext_getElem? → Yc, map_singleton → Yd, map_map → Ye, set_cons_succ → Yf, map_nil → Yg, length_drop → Yh, getElem?_drop → Yi, drop_succ_cons → Yj, getElem?_of_mem → Yk, mem_flatten → Yl, getElem?_cons_zero → Ym, length_singleton → Yn, getElem_mem → Yo, take_add_one → Yp, take_length → Yq, eraseIdx_eq_take_drop_succ → Ys, getElem?_eraseIdx → Yt, append_nil → Yu, drop_eq_nil_of_le → Yv, mem_of_mem_eraseIdx → Yw, getElem?_range' → Yx, getElem?_nil → Yy, set_append_left → Yz, take_append_drop → YA, getElem?_take → YB, eraseIdx_sublist → YC, set_cons_zero → YE, takeWhile_cons → YF, getElem?_concat_length → YG
open Nat renaming sub_self → Zk, le_refl → Zu, add_comm → ZP, zero_add → ZS, add_sub_cancel_left → ZV, zero_le → Ya, add_assoc → Yr, sub_lt_sub_left → YD
open Bool renaming not_true → Zr, or_eq_false_iff → ZW
open Int renaming ofNat_lt → ZA
open Option renaming map_some → ZT
section
namespace Go.Proofs.Ytnlobbbbgcdiiaa
open Go.Pm
open Go.Gm (Ev Gr)
theorem sg_idx {ks : List Nat} {N o : Nat} (h : o ∈ ks) : sg ks N (idx ks o) = o:=by
 unfold sg
 rw [idx_get h]
theorem ob_back {ks : List Nat} {N : Nat} {ob : Ob} (h : ob.refs (· ∈ ks)) : (ob.ren (idx ks)).ren (sg ks N) = ob:=by
 rw [Ob.ren_twice]
 exact Ob.ren_self (p:=(· ∈ ks)) (fun o ho=>sg_idx ho) h
theorem rens_back {ks : List Nat} {N : Nat} {xs : List V} (h : Refs (· ∈ ks) xs) : rens (sg ks N) (rens (idx ks) xs) = xs:=by
 rw [rens_twice,rens_congr (σ:=fun o=>o) (fun o ho=>sg_idx ho) xs h,rens_id]
theorem renss_map' (ρ : Nat → Nat) : ∀ xs : List (List V),renss ρ xs = xs.map (rens ρ)
 | []=>rfl
 | x :: xs=>by simp only [renss,Zx,renss_map' ρ xs]
theorem clY.rows {P : Program} {f : FuncId} {xs xs' : List V} {m m0 T : List Ob} {r : V} {K KL : V → List Ob → Prop} (q : Nat) (ks1 : List Nat) (h : LCon P f xs' m0 r (.dead :: (m0.drop 1 ++ T))) (e : LArg (q :: ks1) [] m xs xs' m0)
  (k : KL (r.ren (sg (q :: ks1) m.length)) (m.set q .dead ++ T.map (Ob.ren (sg (q :: ks1) m.length)))) : @clY P (.fn f [] []) xs m ⟨K,KL⟩:=by
 obtain ⟨e1,e2,e3,e4,e5⟩:=e
 have e2 : ∀ p ∈ q :: ks1,p < m.length ∧ (m.getD p .hole).refs (· ∈ q :: ks1) ∧ (m.getD p .hole).alive = true:=e2
 have e5 : sel (q :: ks1) m = m0:=e5
 have hlt : ∀ p ∈ q :: ks1,p < m.length:=fun p hp=>(e2 p hp).1
 have hl0 : m0.length = ks1.length + 1:=by rw [← e5]; simp [sel]
 have hlen : (q :: ks1).length ≤ (Ob.dead :: (m0.drop 1 ++ T)).length:=by simp; omega
 refine clY.live (q :: ks1) [] h ⟨e1,e2,by simpa using e3,by simpa using e4,e5⟩ hlen ?_
 have key : bk (frzM [] m) (q :: ks1) ((Ob.dead :: (m0.drop 1 ++ T)).map (Ob.ren (sg (q :: ks1) m.length))) = m.set q .dead ++ T.map (Ob.ren (sg (q :: ks1) m.length)):=by
  show upd m (q :: ks1) _ ++ List.drop _ _ = _
  congr 1
  ·apply Yc
   intro j
   rw [upd_get _ _ _ _ e1 (by rw [Zo]; exact hlen),List.getElem?_set]
   by_cases hj : j ∈ q :: ks1
   ·have hjl:=hlt j hj
    rw [if_pos ⟨hj,hjl⟩]
    by_cases hjq : q = j
    ·subst hjq
     rw [if_pos rfl,if_pos hjl,idx_z]; rfl
    ·rw [if_neg hjq,idx_s hjq,Zx,Za,Zq]
     have hj1 : j ∈ ks1:=(Zm.1 hj).resolve_left fun h=>hjq h.symm
     have hi1:=(Zf.1 (idx_get hj1)).1
     rw [Zg (by rw [Zo,Yh]; omega),Zp,Yi,ZP 1,← idx_s (ks:=ks1) hjq,← e5,sel_get hlt,idx_get hj]
     show ((m[j]?).map (Ob.ren (idx (q :: ks1)))).map _ = _
     rw [Option.map_map]
     obtain ⟨ob,hob⟩ : ∃ ob,m[j]? = some ob:=⟨_,Zw hjl⟩
     have hr:=(e2 j hj).2.1
     rw [Zz,hob] at hr
     rw [hob]
     have hr : ob.refs (· ∈ q :: ks1):=hr
     show some _ = _
     rw [Function.comp,ob_back hr]
   ·rw [if_neg (fun h=>hj h.1),if_neg (fun h=>hj (by rw [← h]; exact Zs))]
  ·rw [Zx,Zl,Yj,Zq,List.drop_left' (by rw [Zo,Yh]; omega)]
 rw [key]
 exact k
theorem rowsQ_mem : ∀ (qs : List Nat) (es : List Ev),∀ z ∈ rowsQ qs es,∃ p ∈ qs,∃ e ∈ es,z = rowEv p e
 | [],_,z,hz=>absurd hz ZX
 | _ :: _,[],z,hz=>absurd hz ZX
 | q :: qs,e :: es,z,hz=>by
   rcases Zm.1 hz with rfl | hz
   ·exact ⟨q,Zs,e,Zs,rfl⟩
   ·obtain ⟨p,h1,x,h2,h3⟩:=rowsQ_mem qs es z hz
    exact ⟨p,ZF _ h1,x,ZF _ h2,h3⟩
theorem rowEv_ren1 (ρ : Nat → Nat) (p : Nat) (e : Ev) : rens ρ (rowEv p e) = rowEv (ρ p) e:=rfl
theorem rowEv_refs {ok : Nat → Prop} {p : Nat} (h : ok p) (e : Ev) : Refs ok (rowEv p e):=⟨trivial,trivial,trivial,trivial,trivial,trivial,trivial,h,trivial,trivial⟩
theorem rowEv_one {m : List Ob} {p : Nat} {e : Ev} (h : ∃ x,m[p]? = some (obI x)) : ∀ z ∈ rowEv p e,oneV m z = true:=fun z hz=>by
 obtain ⟨x,hx⟩:=h
 simp only [rowEv,Zm,ZX,or_false] at hz
 rcases hz with rfl | rfl | rfl | rfl | rfl | rfl | rfl | rfl | rfl <;> first | rfl | skip
 rw [oneV_ar]
 unfold arrAt
 rw [hx]
 rfl
theorem sel_obI {ks : List Nat} {m : List Ob} {ps : List Nat} (h : ∀ p ∈ ps,∃ e,m[p]? = some (obI e)) : (ps.map fun p=>(m.getD p .hole).ren (idx ks)) = ps.map fun p=>m.getD p .hole:=ZQ fun p hp=>by
 obtain ⟨e,he⟩:=h p hp
 rw [Zz,he]
 exact obI_ren _ e
section
variable {P : Program} [Is P]
theorem clY.insS {m : List Ob} {q p v n i : Nat} {qs : List Nat} {es : List Ev} {e : Ev} {K KL : V → List Ob → Prop} (hL : LiesQ m q qs es) (hp : m[p]? = some (obI e)) (hpq : p ∉ qs) (hv : m[v]? = some (.arr true 9 [rowEv p e])) (hvq : v ≠ q) (hn : es.length = n) (hi : i ≤ n) (hx : (n + 1) * 96 ≤ 2 ^ 43)
  (k : KL (.ar m.length 0 (n + 1)) (m.set q .dead ++ [.arr true 9 ((rowsQ qs es).take i ++ rowEv p e :: (rowsQ qs es).drop i)])) : @clY P (.fn 210 [] []) [.ar q 0 n,.int .i64 i,.ar v 0 1] m ⟨K,KL⟩:=by
 obtain ⟨ps,hps⟩ : ∃ ps,ps = qs ++ [p]:=⟨_,rfl⟩
 obtain ⟨ks,hks⟩ : ∃ ks,ks = q :: (ps ++ [v]):=⟨_,rfl⟩
 have hql : (rowsQ qs es).length = n:=by rw [rowsQ_len _ _ hL.len,hn]
 have hpsI : ∀ x ∈ ps,∃ e,m[x]? = some (obI e):=fun x hx=>by
  rw [hps] at hx
  rcases Zi.1 hx with hx | hx
  ·obtain ⟨y,_,hy⟩:=hL.mem hx
   exact ⟨y,hy⟩
  ·rw [Zt] at hx; subst hx; exact ⟨e,hp⟩
 have hne9 : ∀ x ∈ ps,x ≠ q ∧ x ≠ v:=fun x hx=>by
  obtain ⟨y,hy⟩:=hpsI x hx
  refine ⟨fun h=>?_,fun h=>?_⟩
  ·subst h; rw [hL.arr] at hy; simp [obI] at hy
  ·subst h; rw [hv] at hy; simp [obI] at hy
 have hpn : ps.Nodup:=by
  rw [hps,ZC]
  exact ⟨hL.nd,by simp,fun a ha b hb=>by rw [Zt] at hb; subst hb; exact fun h=>hpq (h ▸ ha)⟩
 have hnd : ks.Nodup:=by
  rw [hks,Zv,ZC]
  refine ⟨fun h=>?_,hpn,by simp,fun a ha b hb=>?_⟩
  ·rcases Zi.1 h with h | h
   ·exact (hne9 q h).1 rfl
   ·rw [Zt] at h; exact hvq h.symm
  ·rw [Zt] at hb; subst hb; exact (hne9 a ha).2
 have hiq : idx ks q = 0:=by rw [hks]; exact idx_z
 have hip : ∀ (j x : Nat),ps[j]? = some x → idx ks x = j + 1:=fun j x hj=>by
  refine idx_of hnd ?_
  rw [hks,Za,Zg (Zf.1 hj).1]; exact hj
 have hlp : ps.length = n + 1:=by rw [hps,Zj,hL.len,hn]; rfl
 have hiv : idx ks v = n + 2:=by
  refine idx_of hnd ?_
  rw [hks,Za,Ze (by omega),hlp,Zk]; rfl
 have hmks : ∀ x,x ∈ ps → x ∈ ks:=fun x h=>by rw [hks]; exact ZF _ (Zy _ h)
 have hrow : ∀ z ∈ rowsQ qs es,∃ x ∈ ps,∃ y,z = rowEv x y:=fun z hz=>by
  obtain ⟨x,h1,y,_,h3⟩:=rowsQ_mem _ _ z hz
  exact ⟨x,by rw [hps]; exact Zy _ h1,y,h3⟩
 have hpp : p ∈ ps:=by rw [hps]; exact ZD _ Zs
 obtain ⟨R,hR⟩ : ∃ R,R = ps.map fun x=>m.getD x .hole:=⟨_,rfl⟩
 have hRl : R.length = n + 1:=by rw [hR,Zo,hlp]
 have hRI : ∀ (x : Nat),x ∈ ps → ∀ (a : Ob) (T : List Ob),∃ y,(a :: (R ++ T))[idx ks x]? = some (obI y):=fun x hx a T=>by
  obtain ⟨j,hj⟩:=Yk hx
  have hjl:=(Zf.1 hj).1
  obtain ⟨y,hy⟩:=hpsI x hx
  refine ⟨y,?_⟩
  rw [hip j x hj,Za,Zg (by omega),hR,Zp,hj]
  show some (m.getD x .hole) = _
  rw [Zz,hy]; rfl
 have hidl : ∀ x ∈ ps,idx ks x < R.length + 2:=fun x hx=>by
  obtain ⟨j,hj⟩:=Yk hx
  have hjl:=(Zf.1 hj).1
  rw [hip j x hj]; omega
 obtain ⟨L,hLL⟩ : ∃ L,L = (rowsQ qs es).map (rens (idx ks)):=⟨_,rfl⟩
 have hLl : L.length = n:=by rw [hLL,Zo,hql]
 have hLm : ∀ z ∈ L,∃ x ∈ ps,∃ y,z = rowEv (idx ks x) y:=fun z hz=>by
  rw [hLL] at hz
  obtain ⟨w,hw,rfl⟩:=ZY.1 hz
  obtain ⟨x,h1,y,rfl⟩:=hrow w hw
  exact ⟨x,h1,y,rfl⟩
 have hc:=n_insR (P:=P) L (rowEv (idx ks p) e) R i (by omega) (by omega) (fun z hz=>by obtain ⟨x,_,y,rfl⟩:=hLm z hz; rfl) rfl
  (fun a T z hz=>by
   obtain ⟨w,hw,hz⟩:=Yl.1 hz
   obtain ⟨x,h1,y,rfl⟩:=hLm w hw
   exact rowEv_one (hRI x h1 a T) z hz) (fun a T=>rowEv_one (hRI p hpp a T))
  (Refss.of fun w hw=>by obtain ⟨x,h1,y,rfl⟩:=hLm w hw; exact rowEv_refs (hidl x h1) y) (rowEv_refs (hidl p hpp) e)
  (fun ob ho=>by
   rw [hR] at ho
   obtain ⟨x,hx,rfl⟩:=ZY.1 ho
   obtain ⟨y,hy⟩:=hpsI x hx
   rw [Zz,hy]
   exact obI_refs _ y)
 rw [hLl,hRl] at hc
 have hmd : ∀ {x : Nat} {ob : Ob},m[x]? = some ob → m.getD x .hole = ob:=fun {x ob} h=>by rw [Zz,h]; rfl
 have hlt : ∀ {x : Nat} {ob : Ob},m[x]? = some ob → x < m.length:=fun {x ob} h=>(Zf.1 h).1
 refine clY.rows (T:=[.arr true 9 (L.take i ++ rowEv (idx ks p) e :: L.drop i)]) q (ps ++ [v]) (m0:=.arr true 9 L :: (R ++ [.arr true 9 [rowEv (idx ks p) e]])) (by
  rw [Yj,ZZ,Zb]; exact hc) ?_ ?_
 ·rw [← hks]
  refine ⟨hnd,fun x hx=>?_,?_,?_,?_⟩
  ·show x < m.length ∧ (m.getD x .hole).refs _ ∧ (m.getD x .hole).alive = true
   rw [hks] at hx
   rcases Zm.1 hx with rfl | hx
   ·refine ⟨hlt hL.arr,?_,?_⟩
    ·rw [hmd hL.arr]
     exact Refss.of fun w hw=>by obtain ⟨x,h1,y,rfl⟩:=hrow w hw; exact rowEv_refs (hmks x h1) y
    ·rw [hmd hL.arr]; rfl
   ·rcases Zi.1 hx with hx | hx
    ·obtain ⟨y,hy⟩:=hpsI x hx
     refine ⟨hlt hy,?_,?_⟩
     ·rw [hmd hy]; exact obI_refs _ y
     ·rw [hmd hy]; rfl
    ·rw [Zt] at hx
     subst hx
     refine ⟨hlt hv,?_,?_⟩
     ·rw [hmd hv]; exact ⟨rowEv_refs (hmks p hpp) e,trivial⟩
     ·rw [hmd hv]; rfl
  ·show Refs _ (convs m [V.ar q 0 n,.int .i64 i,.ar v 0 1])
   simp only [convs,conv,hL.arr,hv]
   exact ⟨by show q ∈ ks; rw [hks]; exact Zs,trivial,by show v ∈ ks; rw [hks]; exact ZF _ (ZD _ Zs),trivial⟩
  ·show rens _ (convs m [V.ar q 0 n,.int .i64 i,.ar v 0 1]) = _
   simp only [convs,conv,hL.arr,hv,rens,V.ren,hiq,hiv]
  ·show (ks.map fun x=>(m.getD x .hole).ren (idx ks)) = _
   have e1 : ∀ ks2,(∀ x,idx ks2 x = idx ks x) → ((q :: (ps ++ [v])).map fun x=>(m.getD x .hole).ren (idx ks2)) = .arr true 9 L :: (R ++ [.arr true 9 [rowEv (idx ks p) e]]):=fun ks2 h2=>by
    have h3 : idx ks2 = idx ks:=funext h2
    rw [h3,Zx,Zq,sel_obI hpsI,← hR,hmd hL.arr,Yd,hmd hv,hLL]
    simp only [Ob.ren,renss_map',Zx,Yg,rowEv_ren1]
   have:=e1 ks fun _=>rfl
   rw [← hks] at this
   exact this
 ·rw [← hks]
  have e1 : V.ren (sg ks m.length) (.ar (n + 1 + 2) 0 (n + 1)) = .ar m.length 0 (n + 1):=by
   show V.ar (sg ks m.length (n + 1 + 2)) 0 (n + 1) = _
   have hkl : ks.length = n + 3:=by rw [hks,Zl,Zj,hlp]; rfl
   unfold sg
   rw [ZG (by omega)]
   simp only
   rw [hkl]
   congr 1
   omega
  have hbk : ∀ z ∈ rowsQ qs es,rens (sg ks m.length) (rens (idx ks) z) = z:=fun z hz=>by
   obtain ⟨x,h1,y,rfl⟩:=hrow z hz
   exact rens_back (rowEv_refs (hmks x h1) y)
  have hb2 : ∀ l : List (List V),(∀ z ∈ l,z ∈ rowsQ qs es) → (l.map (rens (idx ks))).map (rens (sg ks m.length)) = l:=fun l hl=>by
   rw [Ye]
   have : l.map (rens (sg ks m.length) ∘ rens (idx ks)) = l.map id:=ZQ fun z hz=>hbk z (hl z hz)
   rw [this,List.map_id]
  have e2 : (Ob.arr true 9 (L.take i ++ rowEv (idx ks p) e :: L.drop i)).ren (sg ks m.length) = .arr true 9 ((rowsQ qs es).take i ++ rowEv p e :: (rowsQ qs es).drop i):=by
   simp only [Ob.ren,renss_map',Zq,Zx]
   rw [hLL,← ZL,← ZM,hb2 _ fun z hz=>ZH hz,hb2 _ fun z hz=>ZI hz]
   have : rens (sg ks m.length) (rowEv (idx ks p) e) = rowEv p e:=by rw [← rowEv_ren1]; exact rens_back (rowEv_refs (hmks p hpp) e)
   rw [this]
  rw [e1,Yd,e2]
  exact k
theorem rowsQ_range : ∀ (l : List Ev) (a : Nat),rowsQ (Zh a l.length) l = rowsEv a l
 | [],a=>rfl
 | e :: l,a=>by
   rw [Zl,List.range'_succ]
   show rowEv a e :: rowsQ _ l = rowEv a e :: rowsEv (a + 1) l
   rw [rowsQ_range l (a + 1)]
theorem LiesQ.first (l : List Ev) (T : List Ob) : LiesQ (.arr true 9 (rowsEv 1 l) :: (l.map obI ++ T)) 0 (Zh 1 l.length) l:=by
 refine ⟨by simp,ZR,by rw [Ym,rowsQ_range],fun i e hi=>?_⟩
 have hl:=(Zf.1 hi).1
 refine ⟨1 + i,by rw [Yx hl]; simp,?_⟩
 rw [ZP,Za,Zg (by rw [Zo]; exact hl),Zp,hi]; rfl
theorem wkT_on {ks : List Nat} {p : Nat → Prop} (hk : ∀ q,p q → q ∈ ks ∧ idx ks q = q) : ∀ {xs : List V},(∀ x ∈ xs,Ref p x) → wkT ks xs xs
 | [],_=>rfl
 | x :: xs,h=>⟨.inr ⟨Ref.mono (fun q hq=>(hk q hq).1) _ (h x Zs),by rw [V.congr (σ:=fun o=>o) (fun q hq=>(hk q hq).2) x (h x Zs),V.ren_id]⟩,wkT_on hk fun y hy=>h y (ZF _ hy)⟩
theorem LResY.last {A D m0 : List Ob} {o : Ob} {n : Nat} (hl : m0.length ≤ A.length) (hA : ∀ ob ∈ A,ob.refs (· < A.length)) (ho : o.refs (· < A.length)) : @LResY (A ++ (D ++ [o])) (plc 0 m0) (.ar (A.length + D.length) 0 n) ⟨m0,.ar A.length 0 n,A ++ [o]⟩:=by
 obtain ⟨ks,hks⟩ : ∃ ks,ks = segK 0 A.length ++ [A.length + D.length]:=⟨_,rfl⟩
 have hnd : ks.Nodup:=by
  rw [hks,ZC]
  refine ⟨segK_nodup _ _,by simp,fun a ha b hb=>?_⟩
  have:=segK_mem.1 ha
  rw [Zt] at hb
  omega
 have hsl : (segK 0 A.length).length = A.length:=by simp [segK]
 have hix : ∀ x,x < A.length → idx ks x = x:=fun x hx=>by
  refine idx_of hnd ?_
  rw [hks,Zg (by rw [hsl]; exact hx),segK_get,if_pos hx,ZS]
 have hil : idx ks (A.length + D.length) = A.length:=by
  refine idx_of hnd ?_
  rw [hks,Ze (by rw [hsl]; exact Zu _),hsl,Zk]; rfl
 have hmem : ∀ x,x < A.length → x ∈ ks:=fun x hx=>by rw [hks]; exact Zy _ (segK_mem.2 (by omega))
 have hml : A.length + D.length ∈ ks:=by rw [hks]; exact ZD _ Zs
 have g1 : ∀ x,(h : x < A.length) → (A ++ (D ++ [o])).getD x .hole = A[x]:=fun x h=>by rw [Zz,Zg h,Zw h]; rfl
 have g2 : (A ++ (D ++ [o])).getD (A.length + D.length) .hole = o:=by
  rw [Zz,Ze (by omega),Ze (by omega),show A.length + D.length - A.length - D.length = 0 by omega]; rfl
 have rf : ∀ ob : Ob,ob.refs (· < A.length) → ob.refs (· ∈ ks):=fun ob h=>by
  cases ob with
  | hole=>trivial
  | dead=>trivial
  | box lv cs=>exact Refs.mono (fun x hx=>hmem x hx) _ h
  | arr lv sz xs=>exact Refss.mono (fun x hx=>hmem x hx) _ h
  | mp lv ks vs=>exact ⟨Refs.mono (fun x hx=>hmem x hx) _ h.1,Refs.mono (fun x hx=>hmem x hx) _ h.2⟩
 have hks2 : ∀ x ∈ ks,x < A.length ∨ x = A.length + D.length:=fun x hx=>by
  rw [hks] at hx
  rcases Zi.1 hx with hx | hx
  ·have:=segK_mem.1 hx; left; omega
  ·rw [Zt] at hx; exact .inr hx
 refine LResY.mk ks ⟨hnd,fun x hx=>?_,fun x hx=>?_,?_,⟨.inr ⟨?_,?_⟩,rfl⟩,?_⟩
 ·show x < (A ++ (D ++ [o])).length
  rw [Zj,Zj,Yn]
  rcases hks2 x hx with h | h <;> omega
 ·simp only
  rcases hks2 x hx with h | h
  ·rw [g1 x h]; exact rf _ (hA _ (Yo h))
  ·rw [h,g2]; exact rf _ ho
 ·simp only
  have e1 : ks.map (fun q=>((A ++ (D ++ [o])).getD q .hole).ren (idx ks)) = A ++ [o]:=by
   have h3 : ∀ q ∈ ks,((A ++ (D ++ [o])).getD q .hole).ren (idx ks) = (A ++ (D ++ [o])).getD q .hole:=fun q hq=>by
    rcases hks2 q hq with h | h
    ·rw [g1 q h]; exact Ob.ren_self hix (hA _ (Yo h))
    ·rw [h,g2]; exact Ob.ren_self hix ho
   rw [ZQ h3,hks,Zq,Yd,g2]
   congr 1
   apply Yc
   intro j
   rw [Zp,segK_get]
   by_cases hj : j < A.length
   ·rw [if_pos hj,ZS,ZT,g1 j hj,Zw hj]
   ·rw [if_neg hj,ZG (by omega)]; rfl
  exact e1.symm
 ·show A.length + D.length ∈ ks
  exact hml
 ·simp only [V.ren,hil]
 ·exact wkT_on (p:=(· < A.length)) (fun q hq=>⟨hmem q hq,hix q hq⟩) (fun x hx=>plc_refs m0 0 (fun i h1 h2=>by omega) x hx)
end
theorem rowsQ_get : ∀ (qs : List Nat) (es : List Ev) (i p : Nat) (e : Ev),qs[i]? = some p → es[i]? = some e → (rowsQ qs es)[i]? = some (rowEv p e)
 | q :: qs,x :: es,0,p,e,h1,h2=>by
   rw [Ym] at h1 h2
   injection h1 with h1; injection h2 with h2
   subst h1; subst h2; rfl
 | q :: qs,x :: es,i + 1,p,e,h1,h2=>by
   rw [Za] at h1 h2
   show (rowEv q x :: rowsQ qs es)[i + 1]? = _
   rw [Za]
   exact rowsQ_get qs es i p e h1 h2
 | [],es,i,p,e,h1,h2=>by rw [Yy] at h1; cases h1
 | q :: qs,[],i,p,e,h1,h2=>by rw [Yy] at h2; cases h2
theorem LiesQ.dcv {m : List Ob} {q : Nat} {qs : List Nat} {es : List Ev} (h : LiesQ m q qs es) (n : Nat) : dcv (n + 2) m (.ar q 0 es.length) = .sl 9 (es.map encEv):=by
 have hl:=rowsQ_len qs es h.len
 simp only [Go.Pm.dcv,h.arr,ZZ]
 rw [ZJ (by omega)]
 congr 1
 apply Yc
 intro i
 rw [Zp,Zp]
 by_cases hi : i < es.length
 ·obtain ⟨e,he⟩ : ∃ e,es[i]? = some e:=⟨_,Zw hi⟩
  obtain ⟨p,h1,h2⟩:=h.at_ i e he
  have hr : (rowsQ qs es)[i]? = some (rowEv p e):=rowsQ_get _ _ i p e h1 he
  rw [hr,he,ZT,ZT]
  congr 1
  have hp : Go.Pm.dcv (n + 1) m (.ar p 0 e.prev.length) = .sl 1 (e.prev.map encI):=by
   simp only [Go.Pm.dcv,h2,obI,ZZ]
   rw [ZJ (by simp)]
   congr 1
   rw [Ye]
   exact ZQ fun x _=>by cases n <;> rfl
  simp only [rowEv,Zx,Yg,hp,encEv]
  rfl
 ·rw [ZG (by omega),ZG (by omega)]; rfl
section
variable {P : Program} [Is P]
theorem n_insertE (l : List Ev) (e : Ev) (b : Bool) (hl : (l.length + 1) * 96 ≤ 2 ^ 43) (hf : Con P 180 [.sl 9 (l.map encEv),.int .i64 e.id] (.tup [.int .i64 (Gm.posE l e.id),.bool b])) :
  LCon P 181 [.ar 0 0 l.length,.agg (rowEv (l.length + 1) e)] (.arr true 9 (rowsEv 1 l) :: (l.map obI ++ [obI e])) (.ar (l.length + 2) 0 (l.length + 1)) (.dead :: (l.map obI ++ [obI e] ++ [.arr true 9 ((rowsEv 1 l).take (Gm.posE l e.id) ++ rowEv (l.length + 1) e :: (rowsEv 1 l).drop (Gm.posE l e.id))])):=by
 obtain ⟨n,hn⟩ : ∃ n,l.length = n:=⟨_,rfl⟩
 obtain ⟨R,hR⟩ : ∃ R,R = l.map obI ++ [obI e]:=⟨_,rfl⟩
 have hRl : R.length = n + 1:=by rw [hR,Zj,Zo,hn]; rfl
 have hp : Past R (n + 1):=Past.mk' hRl
 have hpos:=Gm.posE_le l e.id
 rw [hn] at hl hpos ⊢
 rw [← hR]
 have hLf : ∀ T,LiesQ (.arr true 9 (rowsEv 1 l) :: (R ++ T)) 0 (Zh 1 n) l:=fun T=>by
  have:=LiesQ.first l ([obI e] ++ T)
  rw [hn,← Zb,← hR] at this
  exact this
 have hpe : ∀ (a : Ob) T,(a :: (R ++ T))[n + 1]? = some (obI e):=fun a T=>by
  rw [Za,hR,Zb,Ze (by rw [Zo]; omega),Zo,hn,Zk]; rfl
 have hrq : rowsQ (Zh 1 n) l = rowsEv 1 l:=by rw [← hn]; exact rowsQ_range l 1
 refine LCon.ofS (n:=19) (rs:=[.tmp 4]) (Is.fn Try.func181) rfl (Is.call Try.call181) Try.results181 Try.ntmps181 ?_
 generalize hgg : plc 0 (.arr true 9 (rowsEv 1 l) :: R) = gg
 refine CW.sound ?_
 simp only [method_specs_simp,seval,Zb,Zc,Zd,rowEv,hp.len,hp.g0,hp.g,hp.b0,hp.b,hp.v0,hp.v,hp.a0,hp.a,hp.w0,hp.w,hp.s0,hp.s]
 refine clY.conD 2 hf ?_ ⟨of_eq_true (encEv_refs _ _),trivial,trivial⟩ ⟨trivial,trivial,trivial⟩ ?_
 ·have:=(hLf [.box true (rowEv (n + 1) e)]).dcv 0
  rw [hn] at this
  show [dcv 2 _ (.ar 0 0 n),dcv 2 _ (.int .i64 e.id)] = _
  rw [← this]
  rfl
 simp only [method_specs_simp,seval,Zb,Zc,Zd,rowEv,hp.len,hp.g0,hp.g,hp.b0,hp.b,hp.v0,hp.v,hp.a0,hp.a,hp.w0,hp.w,hp.s0,hp.s]
 refine clY.insS (qs:=Zh 1 n) (es:=l) (p:=n + 1) (e:=e) (hLf _) (hpe _ _) (by simp; omega) ?_ (by omega) hn hpos hl ?_
 ·show (_ :: (R ++ _))[n + 1 + 1 + 1]? = _
  rw [Za]
  exact (hp.g _ 1).trans rfl
 rw [hrq]
 simp only [method_specs_simp,seval,Zb,Zc,Zd,rowEv,hp.len,hp.g0,hp.g,hp.b0,hp.b,hp.v0,hp.v,hp.a0,hp.a,hp.w0,hp.w,hp.s0,hp.s]
 rw [← hgg]
 have hA : (Ob.dead :: R).length = n + 2:=by simp [hRl]
 have hRI : ∀ ob ∈ R,∃ x,ob = obI x:=fun ob ho=>by
  rw [hR] at ho
  rcases Zi.1 ho with ho | ho
  ·obtain ⟨x,_,rfl⟩:=ZY.1 ho; exact ⟨x,rfl⟩
  ·rw [Zt] at ho; exact ⟨e,ho⟩
 have hrr:=rowsEv_refs (ok:=(· < n + 2)) 1 l fun i h1 h2=>by omega
 have:=LResY.last (m0:=.arr true 9 (rowsEv 1 l) :: R) (A:=.dead :: R) (D:=[.box true (rowEv (n + 1) e),.arr true 9 [rowEv (n + 1) e]]) (o:=.arr true 9 ((rowsEv 1 l).take (Gm.posE l e.id) ++ rowEv (n + 1) e :: (rowsEv 1 l).drop (Gm.posE l e.id))) (n:=n + 1) (by simp) (fun ob ho=>by
   rcases Zm.1 ho with rfl | ho
   ·trivial
   ·obtain ⟨x,rfl⟩:=hRI ob ho; exact obI_refs _ x) (by
   rw [hA]
   refine Refss.of fun x hx=>?_
   rcases Zi.1 hx with h | h
   ·exact Refss_mem hrr (ZH h)
   ·rcases Zm.1 h with rfl | h
    ·exact rowEv_refs (show n + 1 < n + 2 by omega) e
    ·exact Refss_mem hrr (ZI h))
 rw [hA] at this
 exact this
omit [Is P] in
theorem clY.rowsI {f : FuncId} {xs xs' : List V} {m R : List Ob} {q n' : Nat} {ps : List Nat} {Lc L2 : List (List V)} {K KL : V → List Ob → Prop} (hnd : (q :: ps).Nodup) (hq : m[q]? = some (.arr true 9 Lc)) (hps : ∀ x ∈ ps,∃ y,m[x]? = some (obI y)) (hrow : ∀ z ∈ Lc,∃ x ∈ ps,∃ y,z = rowEv x y) (hrow2 : ∀ z ∈ L2,∃ x ∈ ps,∃ y,z = rowEv x y)
  (hR : ps.map (fun x=>m.getD x .hole) = R) (h : LCon P f xs' (.arr true 9 (Lc.map (rens (idx (q :: ps)))) :: R) (.ar (ps.length + 1) 0 n') (.dead :: (R ++ [.arr true 9 (L2.map (rens (idx (q :: ps))))])))
  (hx : Refs (· ∈ q :: ps) (convs m xs) ∧ rens (idx (q :: ps)) (convs m xs) = xs') (k : KL (.ar m.length 0 n') (m.set q .dead ++ [.arr true 9 L2])) : @clY P (.fn f [] []) xs m ⟨K,KL⟩:=by
 have hmd : ∀ {x : Nat} {ob : Ob},m[x]? = some ob → m.getD x .hole = ob:=fun {x ob} h=>by rw [Zz,h]; rfl
 have hlt : ∀ {x : Nat} {ob : Ob},m[x]? = some ob → x < m.length:=fun {x ob} h=>(Zf.1 h).1
 have hmp : ∀ x,x ∈ ps → x ∈ q :: ps:=fun x h=>ZF _ h
 refine clY.rows (T:=[.arr true 9 (L2.map (rens (idx (q :: ps))))]) q ps (m0:=.arr true 9 (Lc.map (rens (idx (q :: ps)))) :: R) (by rw [Yj,ZZ]; exact h) ?_ ?_
 ·refine ⟨hnd,fun x hx2=>?_,hx.1,hx.2,?_⟩
  ·show x < m.length ∧ (m.getD x .hole).refs _ ∧ (m.getD x .hole).alive = true
   rcases Zm.1 hx2 with rfl | hx2
   ·refine ⟨hlt hq,?_,?_⟩
    ·rw [hmd hq]
     exact Refss.of fun w hw=>by obtain ⟨x,h1,y,rfl⟩:=hrow w hw; exact rowEv_refs (hmp x h1) y
    ·rw [hmd hq]; rfl
   ·obtain ⟨y,hy⟩:=hps x hx2
    refine ⟨hlt hy,?_,?_⟩
    ·rw [hmd hy]; exact obI_refs _ y
    ·rw [hmd hy]; rfl
  ·show ((q :: ps).map fun x=>(m.getD x .hole).ren (idx (q :: ps))) = _
   rw [Zx,sel_obI hps,hR,hmd hq]
   simp only [Ob.ren,renss_map']
 ·have e1 : V.ren (sg (q :: ps) m.length) (.ar (ps.length + 1) 0 n') = .ar m.length 0 n':=by
   show V.ar (sg (q :: ps) m.length (ps.length + 1)) 0 n' = _
   unfold sg
   rw [ZG (by simp)]
   simp
  have e2 : (Ob.arr true 9 (L2.map (rens (idx (q :: ps))))).ren (sg (q :: ps) m.length) = .arr true 9 L2:=by
   simp only [Ob.ren,renss_map',Ye]
   have : L2.map (rens (sg (q :: ps) m.length) ∘ rens (idx (q :: ps))) = L2.map id:=ZQ fun z hz=>by
    obtain ⟨x,h1,y,rfl⟩:=hrow2 z hz
    exact rens_back (rowEv_refs (hmp x h1) y)
   rw [this,List.map_id]
  rw [e1,Yd,e2]
  exact k
omit [Is P] in
theorem LiesQ.rowQ {m : List Ob} {q : Nat} {qs : List Nat} {es : List Ev} (h : LiesQ m q qs es) : ∀ z ∈ rowsQ qs es,∃ x ∈ qs,∃ y,z = rowEv x y:=fun z hz=>by
 obtain ⟨x,h1,y,_,h3⟩:=rowsQ_mem _ _ z hz
 exact ⟨x,h1,y,h3⟩
omit [Is P] in
theorem LiesQ.getD {m : List Ob} {q : Nat} {qs : List Nat} {es : List Ev} (h : LiesQ m q qs es) : qs.map (fun x=>m.getD x .hole) = es.map obI:=by
 apply Yc
 intro i
 rw [Zp,Zp]
 by_cases hi : i < es.length
 ·obtain ⟨e,he⟩ : ∃ e,es[i]? = some e:=⟨_,Zw hi⟩
  obtain ⟨p,h1,h2⟩:=h.at_ i e he
  rw [h1,he,ZT,ZT,Zz,h2]; rfl
 ·rw [ZG (by rw [h.len]; omega),ZG (by omega)]; rfl
theorem clY.insE {m : List Ob} {q p n : Nat} {qs : List Nat} {es : List Ev} {e : Ev} (b : Bool) {K KL : V → List Ob → Prop} (hL : LiesQ m q qs es) (hp : m[p]? = some (obI e)) (hpq : p ∉ qs) (hn : es.length = n) (hx : (n + 1) * 96 ≤ 2 ^ 43) (hf : Con P 180 [.sl 9 (es.map encEv),.int .i64 e.id] (.tup [.int .i64 (Gm.posE es e.id),.bool b]))
  (k : KL (.ar m.length 0 (n + 1)) (m.set q .dead ++ [.arr true 9 ((rowsQ qs es).take (Gm.posE es e.id) ++ rowEv p e :: (rowsQ qs es).drop (Gm.posE es e.id))])) : @clY P (.fn 181 [] []) [.ar q 0 n,.agg (rowEv p e)] m ⟨K,KL⟩:=by
 have hpne : p ≠ q:=fun h=>by subst h; rw [hL.arr] at hp; simp [obI] at hp
 obtain ⟨ks,hks⟩ : ∃ ks,ks = q :: (qs ++ [p]):=⟨_,rfl⟩
 have hnd : ks.Nodup:=by
  rw [hks,Zv,ZC]
  refine ⟨fun h=>?_,hL.nd,by simp,fun a ha b hb=>by rw [Zt] at hb; subst hb; exact fun h=>hpq (h ▸ ha)⟩
  rcases Zi.1 h with h | h
  ·exact hL.ne h
  ·rw [Zt] at h; exact hpne h.symm
 have hiq : idx ks q = 0:=by rw [hks]; exact idx_z
 have hip : ∀ (j x : Nat),qs[j]? = some x → idx ks x = 1 + j:=fun j x hj=>by
  rw [ZP]
  refine idx_of hnd ?_
  rw [hks,Za,Zg (Zf.1 hj).1]; exact hj
 have hipp : idx ks p = n + 1:=by
  refine idx_of hnd ?_
  rw [hks,Za,Ze (by rw [hL.len,hn]; exact Zu _),hL.len,hn,Zk]; rfl
 have hren : (rowsQ qs es).map (rens (idx ks)) = rowsEv 1 es:=by rw [← renss_map']; exact rowsQ_ren _ _ _ _ hL.len hip
 have hc:=n_insertE (P:=P) es e b (by rw [hn]; exact hx) hf
 rw [hn] at hc
 refine clY.rowsI (q:=q) (ps:=qs ++ [p]) (xs':=[.ar 0 0 n,.agg (rowEv (n + 1) e)]) (R:=es.map obI ++ [obI e]) (n':=n + 1) (by rw [← hks]; exact hnd) hL.arr (fun x hx=>?_) (fun z hz=>?_) (fun z hz=>?_) ?_ ?_ ?_ k
 ·rcases Zi.1 hx with hx | hx
  ·obtain ⟨y,_,hy⟩:=hL.mem hx; exact ⟨y,hy⟩
  ·rw [Zt] at hx; subst hx; exact ⟨e,hp⟩
 ·obtain ⟨x,h1,y,h2⟩:=hL.rowQ z hz
  exact ⟨x,Zy _ h1,y,h2⟩
 ·rcases Zi.1 hz with hz | hz
  ·obtain ⟨x,h1,y,h2⟩:=hL.rowQ z (ZH hz)
   exact ⟨x,Zy _ h1,y,h2⟩
  ·rcases Zm.1 hz with rfl | hz
   ·exact ⟨p,ZD _ Zs,e,rfl⟩
   ·obtain ⟨x,h1,y,h2⟩:=hL.rowQ z (ZI hz)
    exact ⟨x,Zy _ h1,y,h2⟩
 ·rw [Zq,hL.getD,Yd,Zz,hp]; rfl
 ·rw [← hks,hren,Zq,Zx,ZL,ZM,hren,rowEv_ren1,hipp,Zj,hL.len,hn]
  exact hc
 ·rw [← hks]
  constructor
  ·simp only [convs,conv,hL.arr,rowEv,hp,obI]
   refine ⟨by show q ∈ ks; rw [hks]; exact Zs,?_,trivial⟩
   exact rowEv_refs (e:=e) (show p ∈ ks by rw [hks]; exact ZF _ (ZD _ Zs))
  ·simp only [convs,conv,hL.arr,rowEv,hp,obI,rens,V.ren,hiq,hipp]
theorem clY.delE {m : List Ob} {q n i : Nat} {qs : List Nat} {es : List Ev} {K KL : V → List Ob → Prop} (hL : LiesQ m q qs es) (hn : es.length = n) (hi : i < n) (hx : n < 2 ^ 40)
  (k : KL (.ar m.length 0 (n - 1)) (m.set q .dead ++ [.arr true 9 ((rowsQ qs es).take i ++ (rowsQ qs es).drop (i + 1))])) : @clY P (.fn 183 [] []) [.ar q 0 n,.int .i64 i,.int .i64 (i + 1 : Nat)] m ⟨K,KL⟩:=by
 obtain ⟨ks,hks⟩ : ∃ ks,ks = q :: qs:=⟨_,rfl⟩
 have hnd : ks.Nodup:=by rw [hks]; exact Zv.2 ⟨hL.ne,hL.nd⟩
 have hiq : idx ks q = 0:=by rw [hks]; exact idx_z
 have hip : ∀ (j x : Nat),qs[j]? = some x → idx ks x = 1 + j:=fun j x hj=>by
  rw [ZP]
  refine idx_of hnd ?_
  rw [hks,Za]; exact hj
 have hren : (rowsQ qs es).map (rens (idx ks)) = rowsEv 1 es:=by rw [← renss_map']; exact rowsQ_ren _ _ _ _ hL.len hip
 have hrl:=rowsEv_len 1 es
 have hev : ∀ z ∈ rowsEv 1 es,∃ (j : Nat) (y : Ev),j < es.length ∧ z = rowEv (1 + j) y:=fun z hz=>by
  obtain ⟨j,hj⟩:=Yk hz
  have hjl:=(Zf.1 hj).1
  rw [rowsEv_get] at hj
  obtain ⟨y,hy,rfl⟩:=Option.map_eq_some_iff.1 hj
  exact ⟨j,y,by omega,rfl⟩
 have hc:=n_delR (P:=P) (rowsEv 1 es) (es.map obI) i (by omega) (by omega) (fun z hz=>by obtain ⟨j,y,_,rfl⟩:=hev z hz; rfl)
  (fun a T z hz=>by
   obtain ⟨w,hw,hz⟩:=Yl.1 hz
   obtain ⟨j,y,hj,rfl⟩:=hev w hw
   refine rowEv_one ⟨es[j],?_⟩ z hz
   rw [ZP,Za,Zg (by rw [Zo]; exact hj),Zp,Zw hj]; rfl)
  (rowsEv_refs 1 es fun i h1 h2=>by rw [Zo]; omega) (fun ob ho=>by obtain ⟨y,_,rfl⟩:=ZY.1 ho; exact obI_refs _ y)
 rw [hrl,Zo,hn] at hc
 refine clY.rowsI (q:=q) (ps:=qs) (xs':=[.ar 0 0 n,.int .i64 i,.int .i64 (i + 1 : Nat)]) (R:=es.map obI) (n':=n - 1) (by rw [← hks]; exact hnd) hL.arr (fun x hx=>?_) hL.rowQ (fun z hz=>?_) hL.getD ?_ ?_ k
 ·obtain ⟨y,_,hy⟩:=hL.mem hx; exact ⟨y,hy⟩
 ·rcases Zi.1 hz with hz | hz
  ·exact hL.rowQ z (ZH hz)
  ·exact hL.rowQ z (ZI hz)
 ·rw [← hks,hren,Zq,ZL,ZM,hren,hL.len,hn]
  exact hc
 ·rw [← hks]
  constructor
  ·simp only [convs,conv,hL.arr]
   exact ⟨by show q ∈ ks; rw [hks]; exact Zs,trivial,trivial,trivial⟩
  ·simp only [convs,conv,hL.arr,rens,V.ren,hiq]
theorem n_copyEventsL (l : List Ev) (hl : EvsOK l) : LCon P 195 [.sl 9 (l.map encEv)] [] (.ar 0 0 l.length) (obE l):=by
 have hl1:=hl.1
 refine LCon.of (n:=20) (rs:=[.tmp 2]) (Is.fn Try.func195) rfl (Is.call Try.call195) Try.results195 Try.ntmps195 ?_
 simp only [method_specs_simp,seval]
 refine SW.whileJ (A:=List Ob × Nat × List Nat × Nat) (fun a=>⟨pad 20 [.junk,.junk,.nil,.ar a.2.1 0 (l.take a.2.2.2).length,.junk,.junk,.junk,.sl 9 (l.map encEv),.int .i64 l.length,.int .i64 a.2.2.2],a.1,[]⟩) (fun a=>l.length - a.2.2.2)
  (fun a=>a.2.2.2 ≤ l.length ∧ LiesQ a.1 a.2.1 a.2.2.1 (l.take a.2.2.2)) ([.arr true 9 []],0,[],0) ⟨Ya _,⟨rfl,List.nodup_nil,rfl,fun i e h=>by simp at h⟩⟩ ?_ ?_
 ·simp only [mvcgen_simp,method_specs_simp,seval]
 ·rintro ⟨m,q,qs,k⟩ ⟨hk,hL⟩
  simp only at hk hL
  have hq:=hL.arr
  have w1 : IntKind.i64.wrap ((k : Int) + 1) = ((k + 1 : Nat) : Int):=wadd1 k (by omega)
  have hkl : (l.take k).length = k:=by rw [Yb]; omega
  refine CW.sound ?_
  simp only [method_specs_simp,seval]
  refine gB_split (fun h=>?_) (fun h=>?_)
  ·simp only [decide_eq_true_eq,ZA] at h
   obtain ⟨e,he⟩ : ∃ e,l[k]? = some e:=⟨_,Zw h⟩
   have hOK:=hl.2 e (ZE he)
   have hnx : l.take (k + 1) = l.take k ++ [e]:=by rw [Yp,he]; rfl
   obtain ⟨N,hN⟩ : ∃ N,m.length = N:=⟨_,rfl⟩
   have hp : Past m N:=Past.mk' hN
   have hqN : q < N:=by rw [← hN]; exact (Zf.1 hq).1
   have hq1 : ∀ L : List Ob,(m ++ L)[q]? = some (.arr true 9 (rowsQ qs (l.take k))):=fun L=>by rw [Zg (by omega)]; exact hq
   have hq2 : ∀ L : List Ob,arrAt (m ++ L) q = some (9,rowsQ qs (l.take k)):=fun L=>by unfold arrAt; rw [hq1]
   have hq3 : ∀ L : List Ob,arrLv (m ++ L) q = some (9,rowsQ qs (l.take k)):=fun L=>by unfold arrLv; rw [hq1]
   have hq4 : ∀ (L : List Ob) (o : Ob),(m ++ L).set q o = m.set q o ++ L:=fun L o=>Yz _ _ (by omega)
   simp only [method_specs_simp,seval,hq1,hq2,hq3,hq4,hp.len,hp.g0,hp.g,hp.b0,hp.b,hp.v0,hp.v,hp.a0,hp.a,hp.w0,hp.w,hp.s0,hp.s,Zb,Zc,Zd,he,encEv]
   refine ⟨by omega,by omega,?_⟩
   refine clY.new (n_copied e hOK) ⟨encEv_ref1 _ e,trivial⟩ ?_
   simp only [method_specs_simp,seval,hq1,hq2,hq3,hq4,hp.len,hp.g0,hp.g,hp.b0,hp.b,hp.v0,hp.v,hp.a0,hp.a,hp.w0,hp.w,hp.s0,hp.s,Zb,Zc,Zd,rowEv]
   have hrl : (rowsQ qs (l.take k)).length = (l.take k).length:=rowsQ_len _ _ hL.len
   refine ⟨rfl,hrl,by omega,by omega,?_⟩
   have hpu:=hL.push hN e (.box true (encEv e)) (.arr true 9 [rowEv (N + 1) e])
   refine AgainJ.mk (m.set q .dead ++ [.box true (encEv e),obI e,.arr true 9 [rowEv (N + 1) e],.arr true 9 (rowsQ qs (l.take k) ++ [rowEv (N + 1) e])],N + 3,qs ++ [N + 1],k + 1) ⟨by show k + 1 ≤ _; omega,by simp only; rw [hnx]; exact hpu⟩ (by show l.length - (k + 1) < l.length - k; omega) ?_
   simp only
   rw [hnx,Zj,Yn]
   simp only [mvcgen_simp,method_specs_simp,seval,hq1,hq2,hq3,hq4,hp.len,hp.g0,hp.g,hp.b0,hp.b,hp.v0,hp.v,hp.a0,hp.a,hp.w0,hp.w,hp.s0,hp.s,Zb,Zc,Zd,w1,rowEv,encEv]
  ·simp only [decide_eq_false_iff_not,Zr,ZA] at h
   have hk2 : k = l.length:=by omega
   rw [hk2,Yq] at hL ⊢
   exact hL.res
theorem n_copiedG (g : Gr) (hg : GrOK g) : LCon P 141 [.agg (encGr g)] [] (.agg (grV 0 g)) (obG g):=by
 have hq : ∀ (o : Ob) (L : List Ob),(g.events.map obI ++ o :: L)[g.events.length]? = some o:=fun o L=>by
  rw [Ze (by simp),Zo,Zk]; rfl
 have hqa : ∀ (lv : Bool) (sz : Nat) (xs : List (List V)) (L : List Ob),arrAt (g.events.map obI ++ .arr lv sz xs :: L) g.events.length = some (sz,xs):=fun lv sz xs L=>by unfold arrAt; rw [hq]
 refine LCon.of (n:=12) (rs:=[.cell 2 69]) (Is.fn Try.func141) rfl (Is.call Try.call141) Try.results141 Try.ntmps141 ?_
 simp only [method_specs_simp,seval,encGr,hq,hqa]
 refine ⟨by kernel_rfl,?_⟩
 refine clY.newD 0 (n_copyEventsL g.events hg.1) (dcv_zero _ _) (by simp only [method_specs_simp]) trivial (obE_flat _) ?_
 rw [obE_ren]
 simp only [method_specs_simp,seval,encGr,hq,hqa,obEb]
 refine clY.newD 0 (n_copyEventsL g.parked hg.2) (dcv_zero _ _) (by simp only [method_specs_simp]) trivial (obE_flat _) ?_
 rw [obE_ren]
 simp only [method_specs_simp,seval,encGr,hq,hqa,obEb]
 refine LResY.tail (A:=[.box true (encGr g),.box true [.int .i64 g.room,.ar 2 0 g.events.length,.ar (g.events.length + 3) 0 g.parked.length]]) ?_ ?_ (obG_refs g) ?_
 ·unfold obG
  rw [Zq,obE_ren,obEb_ren]
  unfold obEb
  simp only [Zl,ZN,Zc,Zd,ZS,encGr]
  rw [show g.events.length + 1 + 1 + 1 + 1 = 2 + (g.events.length + 1) + 1 by omega]
 ·simp only [grV,V.ren,rens,Zl,ZN,ZS]
  rw [show 2 + (g.events.length + 1) = g.events.length + 3 by omega]
 ·rw [obG_len]
  exact ⟨trivial,by show 0 < _; omega,by show 0 + (g.events.length + 1) < _; omega,trivial⟩
end
def poV (o : Gm.Po) : List V:=[.int .i64 o.g.room,.ar 0 0 o.g.events.length,.ar (o.g.events.length + 1) 0 o.g.parked.length,.ar (o.g.events.length + 1 + (o.g.parked.length + 1)) 0 o.added.length,.int .i64 o.code]
def obP (o : Gm.Po) : List Ob:=obG o.g ++ [.arr true 1 (o.added.map encI)]
theorem obP_len (o : Gm.Po) : (obP o).length = o.g.events.length + 1 + (o.g.parked.length + 1) + 1:=by unfold obP; rw [Zj,obG_len]; rfl
theorem LResY.ill {m : List Ob} {N : Nat} {c : Int} (h : m.length = N) : @LResY (m ++ [.arr true 9 [],.arr true 9 [],.arr true 1 []]) [] (.agg [.int .i64 0,.ar N 0 0,.ar (N + 1) 0 0,.ar (N + 2) 0 0,.int .i64 c]) ⟨[],.agg (poV (Gm.illP c)),obP (Gm.illP c)⟩:=by
 subst h
 refine LResY.tail (A:=m) rfl rfl (fun ob ho=>?_) ?_
 ·have ho : ob ∈ [Ob.arr true 9 [],.arr true 9 [],.arr true 1 []]:=ho
  simp only [Zm,ZX,or_false] at ho
  rcases ho with rfl | rfl | rfl <;> trivial
 ·exact ⟨trivial,by show 0 < 3; omega,by show 1 < 3; omega,by show 2 < 3; omega,trivial,trivial⟩
theorem LiesQ.ofB {m : List Ob} {b : Nat} {l : List Ev} (h : ∀ i ob,(obEb b l)[i]? = some ob → m[b + i]? = some ob) : LiesQ m b (Zh (b + 1) l.length) l:=by
 refine ⟨by simp,ZR,?_,fun i e hi=>?_⟩
 ·rw [rowsQ_range]
  exact h 0 _ rfl
 ·have hl:=(Zf.1 hi).1
  refine ⟨b + 1 + i,by rw [Yx hl]; simp,?_⟩
  rw [Yr,ZP 1 i]
  refine h (i + 1) _ ?_
  unfold obEb
  rw [Za,Zp,hi]; rfl
structure LiesW (room : Int) (m : List Ob) (o4 o8 o9 qe qp qa pn : Nat) (qse qsp : List Nat) (E K : List Ev) (A : List Int) (x : Ev) : Prop where
 b4 : m[o4]? = some (.box true [.int .i64 0,.nil,.nil,.nil,.int .i64 0])
 b8 : m[o8]? = some (.box true [.int .i64 room,.ar qe 0 E.length,.ar qp 0 K.length,.ar qa 0 A.length,.int .i64 0])
 b9 : m[o9]? = some (.box true (rowEv pn x))
 e : LiesQ m qe qse E
 k : LiesQ m qp qsp K
 a : m[qa]? = some (.arr true 1 (A.map encI))
 p : m[pn]? = some (obI x)
 nd : (qa :: (qse ++ qsp)).Nodup
 ne : qe ≠ qp
 o48 : o4 ≠ o8
 o49 : o4 ≠ o9
 o89 : o8 ≠ o9
theorem ob_ne {m : List Ob} {a b : Nat} {x y : Ob} (h1 : m[a]? = some x) (h2 : m[b]? = some y) (h : x ≠ y) : a ≠ b:=fun e=>by
 subst e
 rw [h1] at h2
 injection h2 with h2
 exact h h2
theorem set_ne' {m : List Ob} {o p : Nat} {a ob : Ob} (h : m[p]? = some a) (hn : o ≠ p) : (m.set o ob)[p]? = some a:=by rw [List.getElem?_set_ne hn]; exact h
theorem app_get {m L : List Ob} {p : Nat} {a : Ob} (h : m[p]? = some a) : (m ++ L)[p]? = some a:=by rw [Zg (Zf.1 h).1]; exact h
theorem LiesQ.set {m : List Ob} {q o : Nat} {qs : List Nat} {es : List Ev} {ob : Ob} (h : LiesQ m q qs es) (h1 : o ≠ q) (h2 : o ∉ qs) : LiesQ (m.set o ob) q qs es :=
 ⟨h.len,h.nd,set_ne' h.arr h1,fun i e hi=>by
  obtain ⟨p,k1,k2⟩:=h.at_ i e hi
  exact ⟨p,k1,set_ne' k2 fun e=>h2 (e ▸ ZE k1)⟩⟩
theorem LiesQ.nb {m : List Ob} {q o : Nat} {qs : List Nat} {es : List Ev} {lv : Bool} {cs : List V} (h : LiesQ m q qs es) (ho : m[o]? = some (.box lv cs)) : o ≠ q ∧ o ∉ qs :=
 ⟨ob_ne ho h.arr (by simp),fun hm=>by
  obtain ⟨y,_,hy⟩:=h.mem hm
  rw [ho] at hy
  simp [obI] at hy⟩
theorem LiesQ.ni {m : List Ob} {q : Nat} {qs : List Nat} {es : List Ev} (h : LiesQ m q qs es) {q2 : Nat} {xs : List (List V)} (h2 : m[q2]? = some (.arr true 9 xs)) : q2 ∉ qs:=fun hm=>by
 obtain ⟨y,_,hy⟩:=h.mem hm
 rw [h2] at hy
 simp [obI] at hy
theorem rowsQ_take : ∀ (i : Nat) (qs : List Nat) (es : List Ev),(rowsQ qs es).take i = rowsQ (qs.take i) (es.take i)
 | 0,qs,es=>by simp [rowsQ]
 | i + 1,[],es=>rfl
 | i + 1,q :: qs,[]=>by simp [rowsQ]
 | i + 1,q :: qs,e :: es=>by
   show rowEv q e :: (rowsQ qs es).take i = rowEv q e :: rowsQ (qs.take i) (es.take i)
   rw [rowsQ_take i]
theorem rowsQ_drop : ∀ (i : Nat) (qs : List Nat) (es : List Ev),(rowsQ qs es).drop i = rowsQ (qs.drop i) (es.drop i)
 | 0,qs,es=>rfl
 | i + 1,[],es=>by simp [rowsQ]
 | i + 1,q :: qs,[]=>by cases h : qs.drop i <;> simp [rowsQ,h]
 | i + 1,q :: qs,e :: es=>rowsQ_drop i qs es
theorem rowsQ_app2 : ∀ (qs : List Nat) (es : List Ev) (qs' : List Nat) (es' : List Ev),qs.length = es.length → rowsQ (qs ++ qs') (es ++ es') = rowsQ qs es ++ rowsQ qs' es'
 | [],[],_,_,_=>rfl
 | [],e :: es,_,_,h=>absurd h (Nat.succ_ne_zero _).symm
 | q :: qs,[],_,_,h=>absurd h (Nat.succ_ne_zero _)
 | q :: qs,e :: es,qs',es',h=>congrArg (rowEv q e :: ·) (rowsQ_app2 qs es qs' es' (Nat.succ.inj h))
theorem LiesQ.ins {m : List Ob} {q p i : Nat} {qs : List Nat} {es : List Ev} {e : Ev} (h : LiesQ m q qs es) (hp : m[p]? = some (obI e)) (hpq : p ∉ qs) (hi : i ≤ es.length) :
  LiesQ (m.set q .dead ++ [.arr true 9 ((rowsQ qs es).take i ++ rowEv p e :: (rowsQ qs es).drop i)]) m.length (qs.take i ++ p :: qs.drop i) (es.take i ++ e :: es.drop i):=by
 have hpe : p ≠ q:=ob_ne hp h.arr (by simp [obI])
 have hlen:=h.len
 refine ⟨by simp [hlen],?_,?_,fun j x hj=>?_⟩
 ·have:=h.nd
  rw [ZC,Zv]
  refine ⟨this.sublist (List.take_sublist _ _),⟨fun hm=>hpq (ZI hm),this.sublist (List.drop_sublist _ _)⟩,fun a ha b hb=>?_⟩
  rcases Zm.1 hb with rfl | hb
  ·exact fun e=>hpq (e ▸ ZH ha)
  ·rw [← YA i qs,ZC] at this
   exact this.2.2 a ha b hb
 ·rw [Ze (by rw [Zn]; exact Zu _),Zn,Zk,rowsQ_take,rowsQ_drop,rowsQ_app2 _ _ _ _ (by simp [hlen])]
  rfl
 ·have key : ∀ (k : Nat) (y : Ev),es[k]? = some y → ∃ r,qs[k]? = some r ∧ (m.set q .dead ++ [.arr true 9 ((rowsQ qs es).take i ++ rowEv p e :: (rowsQ qs es).drop i)])[r]? = some (obI y):=fun k y hk=>by
   obtain ⟨r,k1,k2⟩:=h.at_ k y hk
   exact ⟨r,k1,app_get (set_ne' k2 fun e=>h.ne (e ▸ ZE k1))⟩
  have hq1 : (qs.take i).length = i:=by rw [Yb]; omega
  have he1 : (es.take i).length = i:=by rw [Yb]; omega
  rcases Nat.lt_trichotomy j i with hlt | heq | hgt
  ·rw [Zg (by omega),YB,if_pos hlt] at hj
   obtain ⟨r,k1,k2⟩:=key j x hj
   exact ⟨r,by rw [Zg (by omega),YB,if_pos hlt]; exact k1,k2⟩
  ·subst heq
   rw [Ze (by omega),he1,Zk] at hj
   injection hj with hj
   have hj : e = x:=hj
   subst hj
   exact ⟨p,by rw [Ze (by omega),hq1,Zk]; rfl,app_get (set_ne' hp fun e=>hpe e.symm)⟩
  ·rw [Ze (by omega),he1,show j - i = (j - i - 1) + 1 by omega,Za,Yi] at hj
   obtain ⟨r,k1,k2⟩:=key _ x hj
   exact ⟨r,by rw [Ze (by omega),hq1,show j - i = (j - i - 1) + 1 by omega,Za,Yi]; exact k1,k2⟩
theorem LiesQ.del {m : List Ob} {q i : Nat} {qs : List Nat} {es : List Ev} (h : LiesQ m q qs es) (hi : i < es.length) :
  LiesQ (m.set q .dead ++ [.arr true 9 ((rowsQ qs es).take i ++ (rowsQ qs es).drop (i + 1))]) m.length (qs.eraseIdx i) (es.eraseIdx i):=by
 have hlen:=h.len
 refine ⟨by rw [ZU hi,ZU (by omega),hlen],h.nd.sublist (YC ..),?_,fun j x hj=>?_⟩
 ·rw [Ze (by rw [Zn]; exact Zu _),Zn,Zk,rowsQ_take,rowsQ_drop,← rowsQ_app2 _ _ _ _ (by simp [hlen]),Ys,Ys]
  rfl
 ·rw [Yt] at hj
  have key : ∀ (k : Nat) (y : Ev),es[k]? = some y → ∃ r,qs[k]? = some r ∧ (m.set q .dead ++ [.arr true 9 ((rowsQ qs es).take i ++ (rowsQ qs es).drop (i + 1))])[r]? = some (obI y):=fun k y hk=>by
   obtain ⟨r,k1,k2⟩:=h.at_ k y hk
   exact ⟨r,k1,app_get (set_ne' k2 fun e=>h.ne (e ▸ ZE k1))⟩
  by_cases hji : j < i
  ·rw [if_pos hji] at hj
   obtain ⟨r,k1,k2⟩:=key j x hj
   exact ⟨r,by rw [Yt,if_pos hji]; exact k1,k2⟩
  ·rw [if_neg hji] at hj
   obtain ⟨r,k1,k2⟩:=key _ x hj
   exact ⟨r,by rw [Yt,if_neg hji]; exact k1,k2⟩
theorem LiesW.lt {room : Int} {m : List Ob} {o4 o8 o9 qe qp qa pn : Nat} {qse qsp : List Nat} {E K : List Ev} {A : List Int} {x : Ev} (h : LiesW room m o4 o8 o9 qe qp qa pn qse qsp E K A x) {o : Nat} {ob : Ob} (hm : m[o]? = some ob) : o < m.length:=(Zf.1 hm).1
theorem box_arr {lv lv' : Bool} {cs : List V} {sz : Nat} {xs : List (List V)} : Ob.box lv cs ≠ .arr lv' sz xs:=by simp
theorem LiesW.insE {room : Int} {m m1 : List Ob} {o4 o8 o9 qe qp qa pn i : Nat} {qse qsp : List Nat} {E K : List Ev} {A : List Int} {x : Ev} (h : LiesW room m o4 o8 o9 qe qp qa pn qse qsp E K A x) (hpn : pn ∉ qse ++ qsp) (hpa : pn ≠ qa) (hi : i = Gm.posE E x.id)
  (hm1 : m1 = m.set qe .dead ++ [.arr true 9 ((rowsQ qse E).take i ++ rowEv pn x :: (rowsQ qse E).drop i)]) :
  m1[o8]? = some (.box true [.int .i64 room,.ar qe 0 E.length,.ar qp 0 K.length,.ar qa 0 A.length,.int .i64 0]) ∧
  LiesW room (m1.set o8 (.box true [.int .i64 room,.ar m.length 0 (E.length + 1),.ar qp 0 K.length,.ar qa 0 A.length,.int .i64 0])) o4 o8 o9 m.length qp qa pn (qse.take i ++ pn :: qse.drop i) qsp (Gm.insE E x) K A x:=by
 have hE:=h.e.ins h.p (fun hm=>hpn (Zy _ hm)) (i:=i) (by rw [hi]; exact Gm.posE_le _ _)
 rw [← hm1,show E.take i ++ x :: E.drop i = Gm.insE E x by rw [hi]; rfl] at hE
 have hlen : (Gm.insE E x).length = E.length + 1:=Gm.insE_len _ _
 have lift : ∀ {o : Nat} {ob : Ob},m[o]? = some ob → qe ≠ o → m1[o]? = some ob:=fun {o ob} ho hn=>by rw [hm1]; exact app_get (set_ne' ho hn)
 have q8:=ob_ne h.e.arr h.b8 box_arr.symm
 have n8 : ∀ {o : Nat} {sz : Nat} {xs : List (List V)},m[o]? = some (.arr true sz xs) → o8 ≠ o:=fun {o sz xs} ho=>ob_ne h.b8 ho box_arr
 have hne8 : o8 ≠ m.length:=by have:=h.lt h.b8; omega
 have hK : LiesQ m1 qp qsp K:=by
  rw [hm1]
  exact (h.k.set h.ne (h.k.ni h.e.arr)).app _
 have hnd:=h.nd
 have hb:=lift h.b8 q8
 have nb1:=hK.nb hb
 have nb2:=hE.nb hb
 refine ⟨hb,?_,by rw [hlen,ZO (by rw [hm1,Zj,Zn]; have:=h.lt h.b8; omega)],?_,hE.set nb2.1 nb2.2,hK.set nb1.1 nb1.2,?_,?_,?_,?_,h.o48,h.o49,h.o89⟩
 ·exact set_ne' (lift h.b4 (ob_ne h.e.arr h.b4 box_arr.symm)) fun e=>h.o48 e.symm
 ·exact set_ne' (lift h.b9 (ob_ne h.e.arr h.b9 box_arr.symm)) h.o89
 ·exact set_ne' (lift h.a (ob_ne h.e.arr h.a (by simp))) (n8 h.a)
 ·exact set_ne' (lift h.p (ob_ne h.e.arr h.p (by simp [obI]))) (ob_ne h.b8 h.p (by simp [obI]))
 ·have hp : (qse.take i ++ pn :: qse.drop i).Perm (pn :: qse):=by
   refine List.perm_middle.trans ?_
   rw [YA]
  have hp2 : (qa :: (qse.take i ++ pn :: qse.drop i ++ qsp)).Perm (pn :: (qa :: (qse ++ qsp))):=by
   refine ((hp.append_right qsp).cons qa).trans ?_
   exact List.Perm.swap _ _ _
  rw [hp2.nodup_iff,Zv]
  refine ⟨fun hm=>?_,hnd⟩
  rcases Zm.1 hm with hm | hm
  ·exact hpa hm
  ·exact hpn hm
 ·have:=h.lt h.k.arr; omega
theorem LiesW.push {room : Int} {m m1 : List Ob} {o4 o8 o9 qe qp qa pn : Nat} {qse qsp : List Nat} {E K : List Ev} {A : List Int} {x : Ev} {id : Int} {ob0 : Ob} (h : LiesW room m o4 o8 o9 qe qp qa pn qse qsp E K A x) (hpa : pn ≠ qa)
  (hm1 : m1 = m.set qa .dead ++ [ob0,.arr true 1 (A.map encI ++ [[.int .i64 id]])]) :
  m1[o8]? = some (.box true [.int .i64 room,.ar qe 0 E.length,.ar qp 0 K.length,.ar qa 0 A.length,.int .i64 0]) ∧ m1[m.length + 1]? = some (.arr true 1 (A.map encI ++ [[.int .i64 id]])) ∧
  LiesW room (m1.set o8 (.box true [.int .i64 room,.ar qe 0 E.length,.ar qp 0 K.length,.ar (m.length + 1) 0 (A.length + 1),.int .i64 0])) o4 o8 o9 qe qp (m.length + 1) pn qse qsp E K (A ++ [id]) x:=by
 have lift : ∀ {o : Nat} {ob : Ob},m[o]? = some ob → qa ≠ o → m1[o]? = some ob:=fun {o ob} ho hn=>by rw [hm1]; exact app_get (set_ne' ho hn)
 have q8:=ob_ne h.a h.b8 box_arr.symm
 have n8 : ∀ {o : Nat} {sz : Nat} {xs : List (List V)},m[o]? = some (.arr true sz xs) → o8 ≠ o:=fun {o sz xs} ho=>ob_ne h.b8 ho box_arr
 have hnd:=Zv.1 h.nd
 have h1 : qa ∉ qse:=fun hm=>hnd.1 (Zy _ hm)
 have h2 : qa ∉ qsp:=fun hm=>hnd.1 (ZD _ hm)
 have hE : LiesQ m1 qe qse E:=by rw [hm1]; exact (h.e.set (ob_ne h.a h.e.arr (by simp)) h1).app _
 have hK : LiesQ m1 qp qsp K:=by rw [hm1]; exact (h.k.set (ob_ne h.a h.k.arr (by simp)) h2).app _
 have hb:=lift h.b8 q8
 have nb1:=hK.nb hb
 have nb2:=hE.nb hb
 have hnew : m1[m.length + 1]? = some (.arr true 1 (A.map encI ++ [[.int .i64 id]])):=by
  rw [hm1,Ze (by rw [Zn]; omega),Zn,ZV]; rfl
 have h8:=h.lt h.b8
 refine ⟨hb,hnew,?_,?_,?_,hE.set nb2.1 nb2.2,hK.set nb1.1 nb1.2,?_,?_,?_,h.ne,h.o48,h.o49,h.o89⟩
 ·exact set_ne' (lift h.b4 (ob_ne h.a h.b4 box_arr.symm)) fun e=>h.o48 e.symm
 ·rw [ZO (by rw [hm1,Zj,Zn]; omega),Zj]; rfl
 ·exact set_ne' (lift h.b9 (ob_ne h.a h.b9 box_arr.symm)) h.o89
 ·rw [Zq]
  exact set_ne' hnew (by omega)
 ·exact set_ne' (lift h.p fun e=>hpa e.symm) (ob_ne h.b8 h.p (by simp [obI]))
 ·rw [Zv]
  refine ⟨fun hm=>?_,hnd.2⟩
  rcases Zi.1 hm with hm | hm
  ·obtain ⟨y,_,hy⟩:=h.e.mem hm
   have:=h.lt hy; omega
  ·obtain ⟨y,_,hy⟩:=h.k.mem hm
   have:=h.lt hy; omega
structure Pre (m : List Ob) (o : Nat) : Prop where
 g : ∀ L : List Ob,(m ++ L)[o]? = m[o]?
 b : ∀ L : List Ob,boxAt (m ++ L) o = boxAt m o
 v : ∀ L : List Ob,boxLv (m ++ L) o = boxLv m o
 a : ∀ L : List Ob,arrAt (m ++ L) o = arrAt m o
 w : ∀ L : List Ob,arrLv (m ++ L) o = arrLv m o
 s : ∀ (L : List Ob) (ob : Ob),(m ++ L).set o ob = m.set o ob ++ L
theorem Pre.mk' {m : List Ob} {o : Nat} {ob : Ob} (h : m[o]? = some ob) : Pre m o:=by
 have hl:=(Zf.1 h).1
 have g : ∀ L : List Ob,(m ++ L)[o]? = m[o]?:=fun L=>Zg hl
 exact ⟨g,fun L=>by unfold boxAt; rw [g],fun L=>by unfold boxLv; rw [g],fun L=>by unfold arrAt; rw [g],fun L=>by unfold arrLv; rw [g],fun L ob=>Yz _ _ hl⟩
theorem boxAt_of {m : List Ob} {o : Nat} {lv : Bool} {cs : List V} (h : m[o]? = some (.box lv cs)) : boxAt m o = some cs:=by unfold boxAt; rw [h]
theorem boxLv_of {m : List Ob} {o : Nat} {cs : List V} (h : m[o]? = some (.box true cs)) : boxLv m o = some cs:=by unfold boxLv; rw [h]
theorem arrAt_of {m : List Ob} {o sz : Nat} {lv : Bool} {xs : List (List V)} (h : m[o]? = some (.arr lv sz xs)) : arrAt m o = some (sz,xs):=by unfold arrAt; rw [h]
theorem arrLv_of {m : List Ob} {o sz : Nat} {xs : List (List V)} (h : m[o]? = some (.arr true sz xs)) : arrLv m o = some (sz,xs):=by unfold arrLv; rw [h]
def stepP (f : Nat) (E K : List Ev) (A : List Int) (x : Ev) : List Ev × List Ev × List Int:=if E.length < 60 then Gm.goP f (Gm.insE E x) K (A ++ [x.id]) else Gm.goP f E K A
structure StW (E K : List Ev) (x : Ev) : Prop where
 gi : Gm.GoI E K
 x0 : Gm.hasId E x.id = false
 xk : Gm.hasId K x.id = false
 ok : (∀ y ∈ E,EvOK y) ∧ (∀ y ∈ K,EvOK y) ∧ EvOK x
 kl : K.length ≤ 20
theorem LiesW.init {g : Gr} {e : Ev} {G : List Ob} {N : Nat} {b0 b1 : Ob} (hG : G = obGb 3 g) (hN : G.length = N) : LiesW g.room (b0 :: b1 :: .box true [.int .i64 0,.nil,.nil,.nil,.int .i64 0] :: (G ++ [.box true [.int .i64 g.room,.ar 3 0 g.events.length,.ar (3 + (g.events.length + 1)) 0 g.parked.length,.ar (N + 6) 0 0,.int .i64 0],obI e,.box true (rowEv (N + 4) e),.arr true 1 []]))
  2 (N + 3) (N + 5) 3 (3 + (g.events.length + 1)) (N + 6) (N + 4) (Zh 4 g.events.length) (Zh (3 + (g.events.length + 1) + 1) g.parked.length) g.events g.parked [] e:=by
 have hNl : N = g.events.length + 1 + (g.parked.length + 1):=by rw [← hN,hG,obGb_len]
 have hp : Past G N:=Past.mk' hN
 have lk : ∀ (i : Nat) (ob : Ob) (L : List Ob),G[i]? = some ob → (b0 :: b1 :: .box true [.int .i64 0,.nil,.nil,.nil,.int .i64 0] :: (G ++ L))[3 + i]? = some ob:=fun i ob L h=>by
  rw [show 3 + i = i + 1 + 1 + 1 by omega,Za,Za,Za,Zg (Zf.1 h).1]; exact h
 have lk2 : ∀ (i : Nat) (L : List Ob),(b0 :: b1 :: .box true [.int .i64 0,.nil,.nil,.nil,.int .i64 0] :: (G ++ L))[N + 3 + i]? = L[i]?:=fun i L=>by
  rw [show N + 3 + i = (N + i) + 1 + 1 + 1 by omega,Za,Za,Za,hp.g]
 refine ⟨rfl,lk2 0 _,lk2 2 _,LiesQ.ofB fun i ob hi=>?_,LiesQ.ofB fun i ob hi=>?_,lk2 3 _,lk2 1 _,?_,by omega,by omega,by omega,by omega⟩
 ·refine lk i ob _ ?_
  rw [hG]; unfold obGb
  rw [Zg (Zf.1 hi).1]; exact hi
 ·rw [Yr]
  refine lk _ ob _ ?_
  rw [hG]; unfold obGb
  rw [Ze (by rw [obEb_len]; omega),obEb_len,ZV]; exact hi
 ·rw [Zv,ZC]
  refine ⟨fun h=>?_,ZR,ZR,fun a ha b hb=>?_⟩
  ·rcases Zi.1 h with h | h <;> (have:=ZB.1 h; omega)
  ·have:=ZB.1 ha
   have:=ZB.1 hb
   omega
theorem LiesW.next {room : Int} {m : List Ob} {o4 o8 o9 qe qp qa pn i p : Nat} {qse qsp : List Nat} {E K : List Ev} {A : List Int} {x y : Ev} (h : LiesW room m o4 o8 o9 qe qp qa pn qse qsp E K A x) (h1 : qsp[i]? = some p) (h2 : K[i]? = some y) :
  LiesW room (m.set o9 (.box true (rowEv p y))) o4 o8 o9 qe qp qa p qse qsp E K A y:=by
 have n9 : ∀ {o : Nat} {sz : Nat} {xs : List (List V)},m[o]? = some (.arr true sz xs) → o9 ≠ o:=fun {o sz xs} ho=>ob_ne h.b9 ho box_arr
 have nb1:=h.k.nb h.b9
 have nb2:=h.e.nb h.b9
 have hp : m[p]? = some (obI y):=by
  obtain ⟨r,k1,k2⟩:=h.k.at_ i y h2
  rw [h1] at k1
  injection k1 with k1
  rw [k1]; exact k2
 exact ⟨set_ne' h.b4 fun e=>h.o49 e.symm,set_ne' h.b8 fun e=>h.o89 e.symm,ZO (h.lt h.b9),h.e.set nb2.1 nb2.2,h.k.set nb1.1 nb1.2,set_ne' h.a (n9 h.a),set_ne' hp (ob_ne h.b9 hp (by simp [obI])),h.nd,h.ne,h.o48,h.o49,h.o89⟩
theorem LiesW.fresh {room : Int} {m : List Ob} {o4 o8 o9 qe qp qa pn M : Nat} {qse qsp : List Nat} {E K : List Ev} {A : List Int} {x : Ev} (h : LiesW room m o4 o8 o9 qe qp qa pn qse qsp E K A x) (hM : m.length = M) :
  LiesW room (m ++ [.box true (rowEv pn x)]) o4 o8 M qe qp qa pn qse qsp E K A x:=by
 subst hM
 exact ⟨app_get h.b4,app_get h.b8,by rw [Ze (Zu _),Zk]; rfl,h.e.app _,h.k.app _,app_get h.a,app_get h.p,h.nd,h.ne,h.o48,Nat.ne_of_lt (h.lt h.b4),Nat.ne_of_lt (h.lt h.b8)⟩
theorem LiesW.del {room : Int} {m m1 : List Ob} {o4 o8 o9 qe qp qa pn i n : Nat} {qse qsp : List Nat} {E K : List Ev} {A : List Int} {x : Ev} (h : LiesW room m o4 o8 o9 qe qp qa pn qse qsp E K A x) (hi : i < K.length) (hn : K.length - 1 = n)
  (hm1 : m1 = m.set qp .dead ++ [.arr true 9 ((rowsQ qsp K).take i ++ (rowsQ qsp K).drop (i + 1))]) :
  m1[o8]? = some (.box true [.int .i64 room,.ar qe 0 E.length,.ar qp 0 K.length,.ar qa 0 A.length,.int .i64 0]) ∧
  LiesW room (m1.set o8 (.box true [.int .i64 room,.ar qe 0 E.length,.ar m.length 0 n,.ar qa 0 A.length,.int .i64 0])) o4 o8 o9 qe m.length qa pn qse (qsp.eraseIdx i) E (K.eraseIdx i) A x:=by
 have hK:=h.k.del hi
 rw [← hm1] at hK
 have hlen : (K.eraseIdx i).length = n:=by rw [ZU hi]; exact hn
 have lift : ∀ {o : Nat} {ob : Ob},m[o]? = some ob → qp ≠ o → m1[o]? = some ob:=fun {o ob} ho hn=>by rw [hm1]; exact app_get (set_ne' ho hn)
 have q8:=ob_ne h.k.arr h.b8 box_arr.symm
 have n8 : ∀ {o : Nat} {sz : Nat} {xs : List (List V)},m[o]? = some (.arr true sz xs) → o8 ≠ o:=fun {o sz xs} ho=>ob_ne h.b8 ho box_arr
 have hne8 : o8 ≠ m.length:=by have:=h.lt h.b8; omega
 have hE : LiesQ m1 qe qse E:=by
  rw [hm1]
  exact (h.e.set h.ne.symm (h.e.ni h.k.arr)).app _
 have hb:=lift h.b8 q8
 have nb1:=hK.nb hb
 have nb2:=hE.nb hb
 refine ⟨hb,?_,by rw [hlen,ZO (by rw [hm1,Zj,Zn]; have:=h.lt h.b8; omega)],?_,hE.set nb2.1 nb2.2,hK.set nb1.1 nb1.2,?_,?_,?_,?_,h.o48,h.o49,h.o89⟩
 ·exact set_ne' (lift h.b4 (ob_ne h.k.arr h.b4 box_arr.symm)) fun e=>h.o48 e.symm
 ·exact set_ne' (lift h.b9 (ob_ne h.k.arr h.b9 box_arr.symm)) h.o89
 ·exact set_ne' (lift h.a (ob_ne h.k.arr h.a (by simp))) (n8 h.a)
 ·exact set_ne' (lift h.p (ob_ne h.k.arr h.p (by simp [obI]))) (ob_ne h.b8 h.p (by simp [obI]))
 ·exact h.nd.sublist (((List.Sublist.refl _).append (YC _ _)).cons_cons _)
 ·have:=h.lt h.e.arr; omega
theorem goP_none {f : Nat} {E K : List Ev} {A : List Int} (h : K.any (Gm.allIn E) = false) : Gm.goP f E K A = (E,K,A):=by
 cases f with
 | zero=>rfl
 | succ f =>
  have : K[K.findIdx (Gm.allIn E)]? = none:=ZG (by rw [List.findIdx_eq_length_of_false (fun x hx=>by have:=List.any_eq_false.1 h x hx; simpa using this)]; exact Zu _)
  unfold Gm.goP; rw [this]
theorem goP_some {E K : List Ev} {A : List Int} (h : K.any (Gm.allIn E) = true) : ∃ y,K[K.findIdx (Gm.allIn E)]? = some y ∧ Gm.goP K.length E K A = stepP (K.eraseIdx (K.findIdx (Gm.allIn E))).length E (K.eraseIdx (K.findIdx (Gm.allIn E))) A y:=by
 obtain ⟨z,hz,hz2⟩:=List.any_eq_true.1 h
 have hl:=List.findIdx_lt_length_of_exists ⟨z,hz,hz2⟩
 have hy:=Zw hl
 refine ⟨_,hy,?_⟩
 rw [ZU hl]
 obtain ⟨f,hf⟩ : ∃ f,K.length = f + 1:=⟨K.length - 1,by omega⟩
 rw [hf,Nat.add_sub_cancel]
 conv=>lhs; unfold Gm.goP
 rw [hy]; rfl
theorem refs_app {ok : Nat → Prop} : ∀ {xs ys : List V},Refs ok xs → Refs ok ys → Refs ok (xs ++ ys)
 | [],_,_,h=>h
 | _ :: _,_,h,h2=>⟨h.1,refs_app h.2 h2⟩
theorem LiesQ.renO {m : List Ob} {q : Nat} {qs : List Nat} {es : List Ev} (h : LiesQ m q qs es) (ρ : Nat → Nat) : (qs.map fun p=>(m.getD p .hole).ren ρ) = es.map obI:=by
 apply Yc
 intro i
 rw [Zp,Zp]
 by_cases hie : i < es.length
 ·obtain ⟨x,hx⟩ : ∃ x,es[i]? = some x:=⟨_,Zw hie⟩
  obtain ⟨p,h1,h2⟩:=h.at_ i x hx
  rw [hx,h1,ZT,ZT,Zz,h2,Option.getD_some,obI_ren]
 ·rw [ZG (by rw [h.len]; omega),ZG (by omega)]; rfl
theorem res_po {m : List Ob} {room c : Int} {qe qp qa : Nat} {qse qsp : List Nat} {E K : List Ev} {A : List Int} (he : LiesQ m qe qse E) (hk : LiesQ m qp qsp K) (ha : m[qa]? = some (.arr true 1 (A.map encI))) (hnd : (qa :: (qse ++ qsp)).Nodup) (hne : qe ≠ qp) : @LResY m [] (.agg [.int .i64 room,.ar qe 0 E.length,.ar qp 0 K.length,.ar qa 0 A.length,.int .i64 c]) ⟨[],.agg (poV ⟨⟨room,E,K⟩,A,c⟩),obP ⟨⟨room,E,K⟩,A,c⟩⟩:=by
 obtain ⟨ks,hks⟩ : ∃ ks,ks = (qe :: qse) ++ ((qp :: qsp) ++ [qa]):=⟨_,rfl⟩
 have hle:=he.len
 have hlk:=hk.len
 have hae : qe ≠ qa:=ob_ne he.arr ha (by simp)
 have hak : qp ≠ qa:=ob_ne hk.arr ha (by simp)
 have h1:=Zv.1 hnd
 have h2:=ZC.1 h1.2
 have hks_nd : ks.Nodup:=by
  have hperm : ks.Perm (qe :: qp :: (qa :: (qse ++ qsp))):=by
   rw [hks]
   simp only [Zc]
   refine List.Perm.cons _ ?_
   refine List.perm_middle.trans (List.Perm.cons _ ?_)
   rw [← Zb]
   exact List.perm_append_singleton _ _
  rw [hperm.nodup_iff,Zv,Zv]
  refine ⟨fun h=>?_,fun h=>?_,hnd⟩
  ·rcases Zm.1 h with h | h
   ·exact hne h
   rcases Zm.1 h with h | h
   ·exact hae h
   rcases Zi.1 h with h | h
   ·exact he.ne h
   ·exact hk.ni he.arr h
  ·rcases Zm.1 h with h | h
   ·exact hak h
   rcases Zi.1 h with h | h
   ·exact he.ni hk.arr h
   ·exact hk.ne h
 have i0 : idx ks qe = 0:=by rw [hks]; exact idx_z
 have i1 : ∀ (i p : Nat),qse[i]? = some p → idx ks p = 1 + i:=fun i p hp=>by
  refine idx_of hks_nd ?_
  rw [hks,ZP,Zc,Za,Zg (Zf.1 hp).1]; exact hp
 have i2 : idx ks qp = E.length + 1:=by
  refine idx_of hks_nd ?_
  rw [hks,Ze (by rw [Zl]; omega),Zl,hle,Zk]; rfl
 have i3 : ∀ (i p : Nat),qsp[i]? = some p → idx ks p = E.length + 1 + 1 + i:=fun i p hp=>by
  refine idx_of hks_nd ?_
  rw [hks,Ze (by rw [Zl]; omega),Zl,hle,show E.length + 1 + 1 + i - (E.length + 1) = i + 1 by omega,Zc,Za,Zg (Zf.1 hp).1]; exact hp
 have i4 : idx ks qa = E.length + 1 + (K.length + 1):=by
  refine idx_of hks_nd ?_
  rw [hks,Ze (by rw [Zl]; omega),Zl,hle,ZV,Ze (by rw [Zl]; omega),Zl,hlk,Zk]; rfl
 have me : qe ∈ ks:=by rw [hks]; exact Zy _ Zs
 have mp : qp ∈ ks:=by rw [hks]; exact ZD _ (Zy _ Zs)
 have ma : qa ∈ ks:=by rw [hks]; exact ZD _ (ZD _ (Zt.2 rfl))
 have mse : ∀ p ∈ qse,p ∈ ks:=fun p hp=>by rw [hks]; exact Zy _ (ZF _ hp)
 have msp : ∀ p ∈ qsp,p ∈ ks:=fun p hp=>by rw [hks]; exact ZD _ (Zy _ (ZF _ hp))
 have key : ∀ p ∈ ks,∃ ob,m[p]? = some ob ∧ ob.refs (· ∈ ks):=fun p hp=>by
  rw [hks] at hp
  rcases Zi.1 hp with hp | hp
  ·rcases Zm.1 hp with rfl | hp
   ·exact ⟨_,he.arr,rowsQ_refs qse E mse⟩
   ·obtain ⟨x,_,hx⟩:=he.mem hp
    exact ⟨_,hx,obI_refs _ x⟩
  rcases Zi.1 hp with hp | hp
  ·rcases Zm.1 hp with rfl | hp
   ·exact ⟨_,hk.arr,rowsQ_refs qsp K msp⟩
   ·obtain ⟨x,_,hx⟩:=hk.mem hp
    exact ⟨_,hx,obI_refs _ x⟩
  ·rw [Zt] at hp
   subst hp
   exact ⟨_,ha,of_eq_true (encI_refs _ A)⟩
 have gd : ∀ {p : Nat} {ob : Ob},m[p]? = some ob → m.getD p .hole = ob:=fun {p ob} h=>by rw [Zz,h]; rfl
 refine LResY.mk ks ⟨hks_nd,fun p hp=>?_,fun p hp=>?_,?_,⟨.inr ⟨⟨trivial,me,mp,ma,trivial,trivial⟩,?_⟩,rfl⟩,rfl⟩
 ·obtain ⟨ob,h,_⟩:=key p hp
  exact (Zf.1 h).1
 ·obtain ⟨ob,h,h3⟩:=key p hp
  simp only
  rw [gd h]; exact h3
 ·simp only
  rw [hks,Zq,Zq,Zx,Zx,← hks,he.renO,hk.renO]
  unfold obP obG obE obEb
  simp only [Zx,Yg,gd he.arr,gd hk.arr,gd ha,Ob.ren,rowsQ_ren _ _ _ _ hle i1,rowsQ_ren _ _ _ _ hlk i3,encI_rens,Zb,Zc]
 ·simp only [V.ren,rens,i0,i2,i4,poV]
theorem Gm_putP_whole {g : Gr} {e : Ev} (h1 : Gm.thereP g e = false) (h2 : Gm.fullP g e = false) (h3 : Gm.allIn g.events e = true) {E K : List Ev} {A : List Int} (h : Gm.goP g.parked.length (Gm.insE g.events e) g.parked [e.id] = (E,K,A)) : Gm.putP g e = ⟨⟨g.room,E,K⟩,A,0⟩:=by
 unfold Gm.putP; rw [h1,h2,h3,h]; rfl
theorem Gm_putP_parked {g : Gr} {e : Ev} (h1 : Gm.thereP g e = false) (h2 : Gm.fullP g e = false) (h3 : Gm.allIn g.events e = false) : Gm.putP g e = ⟨⟨g.room,g.events,Gm.insE g.parked e⟩,[],0⟩:=by
 unfold Gm.putP; rw [h1,h2,h3]; rfl
theorem lies_par {g : Gr} {G : List Ob} (hG : G = obGb 3 g) (a b c : Ob) (L : List Ob) : LiesQ (a :: b :: c :: (G ++ L)) 3 (Zh 4 g.events.length) g.events ∧ LiesQ (a :: b :: c :: (G ++ L)) (3 + (g.events.length + 1)) (Zh (3 + (g.events.length + 1) + 1) g.parked.length) g.parked:=by
 have lk : ∀ (i : Nat) (ob : Ob),G[i]? = some ob → (a :: b :: c :: (G ++ L))[3 + i]? = some ob:=fun i ob h=>by
  rw [show 3 + i = i + 1 + 1 + 1 by omega,Za,Za,Za,Zg (Zf.1 h).1]; exact h
 refine ⟨LiesQ.ofB fun i ob hi=>?_,LiesQ.ofB fun i ob hi=>?_⟩
 ·refine lk i ob ?_
  rw [hG]; unfold obGb
  rw [Zg (Zf.1 hi).1]; exact hi
 ·rw [Yr]
  refine lk _ ob ?_
  rw [hG]; unfold obGb
  rw [Ze (by rw [obEb_len]; omega),obEb_len,ZV]; exact hi
structure WA where
 m : List Ob
 o8 : Nat
 o9 : Nat
 qe : Nat
 qp : Nat
 qa : Nat
 pn : Nat
 qse : List Nat
 qsp : List Nat
 E : List Ev
 K : List Ev
 A : List Int
 x : Ev
theorem SW.meet {P : Program} {x y : Code} {st : St} {Q : Exit → St → Prop} (R : St → Prop) (h : Go.Pm.SW P x st (fun e st'=>e = .normal ∧ R st')) (k : ∀ st',R st' → Go.Pm.SW P y st' Q) : Go.Pm.SW P (.seq x y) st Q :=
 SW.seq (SW.mono h fun e st' ⟨he,hr⟩=>by subst he; exact k st' hr)
theorem c_indexFB {P : Program} [Is P] (xs : List Ev) (f : FuncId) (fs : List V) (p : Ev → Bool) (hc : Refs (fun _=>False) fs) (hf : ∀ x ∈ xs,Con P f (fs ++ [.agg (encEv x)]) (.bool (p x))) (hx : xs.length < 2 ^ 62) : Con P 182 [.sl 9 (xs.map encEv),.fn f fs []] (.int .i64 (idxP p xs)):=by
 refine Con.of (n:=19) (rs:=[.tmp 4]) (Is.fn Try.func182) rfl (Is.call Try.call182) Try.results182 Try.ntmps182 trivial ?_
 simp only [method_specs_simp,seval]
 refine SW.while (A:=Nat) (fun k=>⟨pad 19 [.sl 9 (xs.map encEv),.fn f fs [],.junk,.junk,.int .i64 0,.junk,.sl 9 (xs.map encEv),.int .i64 xs.length,.int .i64 k],[],[]⟩) (fun k=>xs.length - k)
  (fun k=>k ≤ xs.length ∧ idxP p xs = if (xs.drop k).any p then (k : Int) + (((xs.drop k).findIdx p : Nat) : Int) else -1) 0 [] ⟨Ya _,by simp [idxP]⟩ ?_ ?_
 ·simp only [mvcgen_simp,method_specs_simp,seval,rens_pure _ hc]
  exact Refs.mono (fun _ h=>h.elim) _ hc
 ·rintro k ⟨hk,hr⟩
  rw [hr]
  refine CW.sound ?_
  simp only [method_specs_simp,seval]
  refine gB_split (fun h=>?_) (fun h=>?_)
  ·simp only [decide_eq_true_eq,ZA] at h
   have hxk : xs[k]? = some xs[k]:=Zw h
   have hfk:=hf _ (Yo h)
   generalize xs[k] = x at hxk hfk
   rw [drop_cons hxk]
   simp only [Zp,hxk,method_specs_simp,seval]
   refine ⟨by omega,by omega,?_⟩
   refine clY.conC hfk (Yu _) (refs_app hc ⟨encEv_ref1 _ x,trivial⟩) ?_
   simp only [method_specs_simp,seval]
   refine gB_split (fun h1=>?_) (fun h1=>?_)
   ·rw [idxP_hit h1]
   ·rw [wrap_id (by omega) (by omega),idxP_miss h1]
    refine Again.mk (k + 1) [] ⟨h,rfl⟩ (YD h (Nat.lt_succ_self _)) ?_
    simp only [mvcgen_simp,method_specs_simp,seval,rens_pure _ hc]
    exact Refs.mono (fun _ h=>h.elim) _ hc
  ·simp only [decide_eq_false_iff_not,Zr,ZA] at h
   rw [Yv (by omega)]
   simp
section
variable {P : Program} [Is P]
theorem n_put (g : Gr) (e : Ev) (hg : GrOK g) (he : EvOK e) (hw : Gm.Wl g) : LCon P 122 [.agg (encGr g),.agg (encEv e)] [] (.agg (poV (Gm.putP g e))) (obP (Gm.putP g e)):=by
 have hf:=c_find (P:=P) g.parked e.id hg.2.1 hw.sk
 have hc:=c_complete (P:=P) g e he hg.1.1 hw.se
 have hh:=c_has (P:=P) g e.id hg.1.1 hw.se
 have hcp:=n_copiedG (P:=P) g hg
 have e60 : ((g.events.length : Int) == 60) = (g.events.length == 60):=by rw [Bool.eq_iff_iff]; simp; omega
 have e20 : ((g.parked.length : Int) == 20) = (g.parked.length == 20):=by rw [Bool.eq_iff_iff]; simp; omega
 have hl3 : ∀ a b c : Ob,([a,b,c] : List Ob).length = 3:=fun _ _ _=>rfl
 refine LCon.ofS (n:=108) (rs:=[.cell 4 77]) (Is.fn Try.func122) rfl (Is.call Try.call122) Try.results122 Try.ntmps122 ?_
 refine SW.seq (CW.sound ?_)
 simp only [method_specs_simp,seval,encGr,encEv]
 refine SW.seq (CW.sound ?_)
 simp only [method_specs_simp,seval,encGr,encEv]
 refine clY.con hf (by simp only [method_specs_simp]) ?_
 simp only [method_specs_simp,seval,encGr,encEv]
 refine SW.seq (CW.sound ?_)
 simp only [method_specs_simp,seval,encGr,encEv]
 refine clY.con hc (by simp only [method_specs_simp,encGr,encEv]) ?_
 simp only [method_specs_simp,seval,encGr,encEv]
 refine SW.seq (SW.block ?_)
 refine SW.seq (CW.sound ?_)
 simp only [method_specs_simp,seval,encGr,encEv]
 refine clY.con hh (by simp only [method_specs_simp,encGr]) ?_
 simp only [method_specs_simp,seval,encGr,encEv]
 cases q1 : Gm.hasId g.events e.id with
 | true =>
  have hpp : Gm.putP g e = Gm.illP 7:=by unfold Gm.putP Gm.thereP; rw [q1]; rfl
  rw [hpp]
  simp only [method_specs_simp,seval,encGr,encEv]
  refine SW.cond (b:=true) rfl (fun _=>?_) (fun h=>by cases h)
  refine SW.seq (CW.sound ?_)
  simp only [method_specs_simp,seval,encGr,encEv]
  refine SW.nilcell 2 1 9 rfl rfl (by decide) ?_
  refine SW.nilcell 2 2 9 rfl rfl (by decide) ?_
  refine SW.nilcell 2 3 1 rfl rfl (by decide) ?_
  refine CW.sound ?_
  simp only [method_specs_simp,seval,encGr,encEv]
  exact LResY.ill (m:=[_,_,_]) rfl
 | false =>
  simp only [method_specs_simp,seval,encGr,encEv]
  cases q2 : Gm.hasId g.parked e.id with
  | true =>
   have hpp : Gm.putP g e = Gm.illP 7:=by unfold Gm.putP Gm.thereP; rw [q1,q2]; rfl
   rw [hpp]
   refine SW.cond (b:=true) rfl (fun _=>?_) (fun h=>by cases h)
   refine SW.seq (CW.sound ?_)
   simp only [method_specs_simp,seval,encGr,encEv]
   refine SW.nilcell 2 1 9 rfl rfl (by decide) ?_
   refine SW.nilcell 2 2 9 rfl rfl (by decide) ?_
   refine SW.nilcell 2 3 1 rfl rfl (by decide) ?_
   refine CW.sound ?_
   simp only [method_specs_simp,seval,encGr,encEv]
   exact LResY.ill (m:=[_,_,_]) rfl
  | false =>
   refine SW.cond (b:=false) rfl (fun h=>by cases h) (fun _=>?_)
   refine SW.seq (CW.sound ?_)
   simp only [method_specs_simp,seval,encGr,encEv]
   rw [e60,e20]
   cases q3 : g.events.length == 60 with
   | true =>
    have hpp : Gm.putP g e = Gm.illP 9:=by unfold Gm.putP Gm.thereP Gm.fullP; rw [q1,q2,q3]; rfl
    rw [hpp]
    simp only [method_specs_simp,seval,encGr,encEv]
    refine SW.cond (b:=true) rfl (fun _=>?_) (fun h=>by cases h)
    refine SW.seq (CW.sound ?_)
    simp only [method_specs_simp,seval,encGr,encEv]
    refine SW.nilcell 2 1 9 rfl rfl (by decide) ?_
    refine SW.nilcell 2 2 9 rfl rfl (by decide) ?_
    refine SW.nilcell 2 3 1 rfl rfl (by decide) ?_
    refine CW.sound ?_
    simp only [method_specs_simp,seval,encGr,encEv]
    exact LResY.ill (m:=[_,_,_]) rfl
   | false =>
    cases q4 : Gm.allIn g.events e with
    | true =>
     simp only [method_specs_simp,seval,encGr,encEv]
     refine SW.cond (b:=false) rfl (fun h=>by cases h) (fun _=>?_)
     refine SW.skip ?_
     show Go.Pm.SW P _ _ _
     refine SW.seq (CW.sound ?_)
     simp only [method_specs_simp,seval,encGr,encEv]
     refine clY.newD 0 hcp (dcv_zero _ _) (by simp only [method_specs_simp,encGr]) (grV_flat 0 g) (obG_flat g) ?_
     rw [obG_ren,hl3]
     obtain ⟨G,hG⟩ : ∃ G,G = obGb 3 g:=⟨_,rfl⟩
     obtain ⟨N,hN⟩ : ∃ N,G.length = N:=⟨_,rfl⟩
     have hp : Past G N:=Past.mk' hN
     have hA0 : ∀ L : List Ob,(G ++ L)[0]? = some (.arr true 9 (rowsEv 4 g.events)):=fun L=>by rw [hG]; rfl
     have hA1 : ∀ (a b c : Ob) (L : List Ob),(a :: b :: c :: (G ++ L))[3 + (g.events.length + 1)]? = some (.arr true 9 (rowsEv (3 + (g.events.length + 1) + 1) g.parked)):=fun a b c L=>by
      rw [show 3 + (g.events.length + 1) = (g.events.length + 1) + 1 + 1 + 1 by omega,Za,Za,Za,hG,obGb_at]
      rw [show 3 + (g.events.length + 1) = g.events.length + 1 + 1 + 1 + 1 by omega]
     rw [← hG]
     simp only [method_specs_simp,seval,encGr,encEv,hp.len,hp.g0,hp.g,hp.b0,hp.b,hp.v0,hp.v,hp.a0,hp.a,hp.w0,hp.w,hp.s0,hp.s,Zb,Zc,Zd,hA0,hA1,grV]
     refine SW.seq (CW.sound ?_)
     simp only [method_specs_simp,seval,encGr,encEv,hp.len,hp.g0,hp.g,hp.b0,hp.b,hp.v0,hp.v,hp.a0,hp.a,hp.w0,hp.w,hp.s0,hp.s,Zb,Zc,Zd,hA0,hA1]
     refine SW.seq (CW.sound ?_)
     simp only [method_specs_simp,seval,encGr,encEv,hp.len,hp.g0,hp.g,hp.b0,hp.b,hp.v0,hp.v,hp.a0,hp.a,hp.w0,hp.w,hp.s0,hp.s,Zb,Zc,Zd,hA0,hA1]
     refine clY.new (n_copied e he) (by simp only [method_specs_simp,encEv]) ?_
     simp only [method_specs_simp,seval,encGr,encEv,hp.len,hp.g0,hp.g,hp.b0,hp.b,hp.v0,hp.v,hp.a0,hp.a,hp.w0,hp.w,hp.s0,hp.s,Zb,Zc,Zd,hA0,hA1,rowEv]
     refine ⟨rfl,?_⟩
     have hob : ∀ (a b c : Ob) (cs : List V) (lv : Bool) (L : List Ob),(a :: b :: c :: (G ++ .box lv cs :: L))[N + 3]? = some (.box lv cs):=fun a b c cs lv L=>by
      rw [Za,Za,Za,hp.g0]; rfl
     refine SW.nilcell (N + 3) 3 1 (hob _ _ _ _ _ _) rfl (by decide) ?_
     have hlen0 : ∀ (a b c d f h : Ob),(a :: b :: c :: (G ++ [d,f,h])).length = N + 6:=fun a b c d f h=>by
      simp only [Zl,Zj,hN,ZN]
     have hset0 : ∀ (a b c d o : Ob) (L : List Ob),(a :: b :: c :: (G ++ d :: L)).set (N + 3) o = a :: b :: c :: (G ++ o :: L):=fun a b c d o L=>by
      rw [Yf,Yf,Yf,hp.s0]; rfl
     rw [hlen0,hset0]
     simp only [Yf,YE,Zc,Zb,Zd]
     have hel:=hw.el
     have hkl:=hw.kl
     have hlt60 : g.events.length < 60:=by
      have : g.events.length ≠ 60:=by simpa using q3
      omega
     refine SW.block ?_
     refine SW.whileJ (A:=WA) (fun a=>⟨pad 108 [.junk,.junk,.junk,.junk,.ptr 2 0,.junk,.junk,.junk,.ptr a.o8 0,.ptr a.o9 0],a.m,[]⟩) (fun a=>a.K.length)
      (fun a=>LiesW g.room a.m 2 a.o8 a.o9 a.qe a.qp a.qa a.pn a.qse a.qsp a.E a.K a.A a.x ∧ StW a.E a.K a.x ∧ stepP a.K.length a.E a.K a.A a.x = Gm.goP g.parked.length (Gm.insE g.events e) g.parked [e.id] ∧ a.A.length + a.K.length ≤ 20 ∧ a.pn ∉ a.qse ++ a.qsp ∧ a.pn ≠ a.qa)
      ⟨_,N + 3,N + 5,3,3 + (g.events.length + 1),N + 6,N + 4,_,_,g.events,g.parked,[],e⟩ ⟨LiesW.init (b0:=.box true (encGr g)) (b1:=.box true (encEv e)) hG hN,⟨hw.goI,q1,q2,⟨hg.1.2,hg.2.2,he⟩,hkl⟩,by show stepP g.parked.length g.events g.parked [] e = _; unfold stepP; rw [if_pos hlt60]; rfl,by show ([] : List Int).length + g.parked.length ≤ 20; simpa using hkl,?_,by show N + 4 ≠ N + 6; omega⟩ ?_ ?_
     ·show N + 4 ∉ Zh 4 g.events.length ++ Zh (3 + (g.events.length + 1) + 1) g.parked.length
      have hNl : N = g.events.length + 1 + (g.parked.length + 1):=by rw [← hN,hG,obGb_len]
      intro h
      rcases Zi.1 h with h | h <;> (have:=ZB.1 h; omega)
     ·simp only [mvcgen_simp,method_specs_simp,seval,encGr,encEv,hp.len,hp.g0,hp.g,hp.b0,hp.b,hp.v0,hp.v,hp.a0,hp.a,hp.w0,hp.w,hp.s0,hp.s,Zb,Zc,Zd,hA0,hA1,rowEv]
     ·rintro ⟨m,o8,o9,qe,qp,qa,pn,qse,qsp,E,K,A,x⟩ ⟨hl,hst,hgo,hAK,hpn,hpa⟩
      simp only at hl hst hgo hAK hpn hpa
      obtain ⟨M,hM⟩ : ∃ M,m.length = M:=⟨_,rfl⟩
      have hpm : Past m M:=Past.mk' hM
      have p8:=Pre.mk' hl.b8
      have p9:=Pre.mk' hl.b9
      have b8a:=boxAt_of hl.b8
      have b8v:=boxLv_of hl.b8
      have b9a:=boxAt_of hl.b9
      have hea:=arrAt_of hl.e.arr
      have hka:=arrAt_of hl.k.arr
      have hel:=hst.gi.el
      have hb8:=hl.b8
      have hb9:=hl.b9
      have heg:=hl.e.arr
      have hkg:=hl.k.arr
      have hpg:=hl.p
      refine SW.seq (SW.block ?_)
      refine SW.meet (fun st'=>∃ (mm : List Ob) (qe' qa' : Nat) (qse' : List Nat) (E' : List Ev) (A' : List Int),Jk st' ⟨pad 108 [.junk,.junk,.junk,.junk,.ptr 2 0,.junk,.junk,.junk,.ptr o8 0,.ptr o9 0],mm,[]⟩ ∧ LiesW g.room mm 2 o8 o9 qe' qp qa' pn qse' qsp E' K A' x ∧ Gm.goP K.length E' K A' = Gm.goP g.parked.length (Gm.insE g.events e) g.parked [e.id] ∧ Gm.GoI E' K ∧ (∀ y ∈ E',EvOK y) ∧ A'.length + K.length ≤ 21) ?_ ?_
      refine SW.seq (CW.sound ?_)
      simp only [method_specs_simp,seval,encGr,encEv,hp.len,hp.g0,hp.g,hp.b0,hp.b,hp.v0,hp.v,hp.a0,hp.a,hp.w0,hp.w,hp.s0,hp.s,Zb,Zc,Zd,hA0,hA1,b8a,hea,hka,hb8,heg,hkg]
      cases c60 : decide ((E.length : Int) < 60) with
      | true =>
       refine SW.cond (b:=true) rfl (fun _=>?_) (fun h=>by cases h)
       refine SW.seq (CW.sound ?_)
       simp only [method_specs_simp,seval,encGr,encEv,hp.len,hp.g0,hp.g,hp.b0,hp.b,hp.v0,hp.v,hp.a0,hp.a,hp.w0,hp.w,hp.s0,hp.s,Zb,Zc,Zd,hA0,hA1,b8a,hea,hka,b9a,hb8,heg,hkg,hb9,rowEv]
       refine clY.insE (e:=x) (Gm.hasId E x.id) hl.e hl.p (fun h=>hpn (Zy _ h)) rfl (by omega) (c_find E x.id (by omega) hst.gi.se) ?_
       obtain ⟨m1,hm1⟩ : ∃ m1,m1 = m.set qe .dead ++ [.arr true 9 ((rowsQ qse E).take (Gm.posE E x.id) ++ rowEv pn x :: (rowsQ qse E).drop (Gm.posE E x.id))]:=⟨_,rfl⟩
       obtain ⟨hb8',hl'⟩:=hl.insE hpn hpa rfl hm1
       have b8a':=boxAt_of hb8'
       have b8v':=boxLv_of hb8'
       have hnew : m1[m.length]? = some (.arr true 9 ((rowsQ qse E).take (Gm.posE E x.id) ++ rowEv pn x :: (rowsQ qse E).drop (Gm.posE E x.id))):=by
        rw [hm1,Ze (by rw [Zn]; exact Zu _),Zn,Zk]; rfl
       have hnewa:=arrAt_of hnew
       rw [← hm1]
       simp only [method_specs_simp,seval,encGr,encEv,hp.len,hp.g0,hp.g,hp.b0,hp.b,hp.v0,hp.v,hp.a0,hp.a,hp.w0,hp.w,hp.s0,hp.s,Zb,Zc,Zd,hA0,hA1,hb8',b8a',b8v',hnew,hnewa]
       obtain ⟨m2,hm2⟩ : ∃ m2,m2 = m1.set o8 (.box true [.int .i64 g.room,.ar m.length 0 (E.length + 1),.ar qp 0 K.length,.ar qa 0 A.length,.int .i64 0]):=⟨_,rfl⟩
       rw [← hm2] at hl' ⊢
       obtain ⟨M2,hM2⟩ : ∃ M2,m2.length = M2:=⟨_,rfl⟩
       have hp2 : Past m2 M2:=Past.mk' hM2
       have s8:=Pre.mk' hl'.b8
       have sa:=Pre.mk' hl'.a
       have s8a:=boxAt_of hl'.b8
       have s8v:=boxLv_of hl'.b8
       have s9a:=boxAt_of hl'.b9
       have saa:=arrAt_of hl'.a
       have sav:=arrLv_of hl'.a
       have sb8:=hl'.b8
       have sb9:=hl'.b9
       have sag:=hl'.a
       refine CW.sound ?_
       simp only [method_specs_simp,seval,encGr,encEv,Zb,Zc,Zd,hp2.len,hp2.g0,hp2.g,hp2.b0,hp2.b,hp2.v0,hp2.v,hp2.a0,hp2.a,hp2.w0,hp2.w,hp2.s0,hp2.s,s8.g,s8.b,s8.v,s8.s,sa.g,sa.a,sa.w,sa.s,s8a,s8v,s9a,saa,sav,sb8,sb9,sag,rowEv,encI]
       refine ⟨by omega,by omega,?_⟩
       obtain ⟨m3,hm3⟩ : ∃ m3,m3 = m2.set qa .dead ++ [.arr true 1 [[.int .i64 x.id]],.arr true 1 (A.map encI ++ [[.int .i64 x.id]])]:=⟨_,rfl⟩
       obtain ⟨c8,cn,hl3'⟩:=hl'.push hpa hm3
       rw [hM2] at cn hl3'
       have c8a:=boxAt_of c8
       have c8v:=boxLv_of c8
       have cna:=arrAt_of cn
       rw [← hm3]
       simp only [method_specs_simp,seval,encGr,encEv,Zb,Zc,Zd,hp2.len,hp2.g0,hp2.g,hp2.b0,hp2.b,hp2.v0,hp2.v,hp2.a0,hp2.a,hp2.w0,hp2.w,hp2.s0,hp2.s,s8.g,s8.b,s8.v,s8.s,sa.g,sa.a,sa.w,sa.s,c8,cn,c8a,c8v,cna]
       have hE60 : E.length < 60:=by simp only [decide_eq_true_eq] at c60; omega
       have hstp : stepP K.length E K A x = Gm.goP K.length (Gm.insE E x) K (A ++ [x.id]):=by unfold stepP; rw [if_pos hE60]
       rw [hstp] at hgo
       refine ⟨_,m.length,M2 + 1,_,Gm.insE E x,A ++ [x.id],?_,hl3',hgo,?_,fun y hy=>?_,?_⟩
       ·simp only [mvcgen_simp,method_specs_simp,seval,encGr,encEv,Zb,Zc,Zd,hp2.len,hp2.g0,hp2.g,hp2.b0,hp2.b,hp2.v0,hp2.v,hp2.a0,hp2.a,hp2.w0,hp2.w,hp2.s0,hp2.s,s8.g,s8.b,s8.v,s8.s,sa.g,sa.a,sa.w,sa.s]
       ·refine ⟨hst.gi.se.ins hst.x0,hst.gi.sk,fun y hy=>?_,by rw [Gm.insE_len]; omega⟩
        rcases Gm.insE_mem.1 hy with rfl | hy
        ·exact hst.xk
        ·exact hst.gi.dis y hy
       ·rcases Gm.insE_mem.1 hy with rfl | hy
        ·exact hst.ok.2.2
        ·exact hst.ok.1 y hy
       ·rw [Zj,Yn]; omega
      | false =>
       refine SW.cond (b:=false) rfl (fun h=>by cases h) (fun _=>?_)
       refine SW.skip ?_
       have hE60 : ¬ E.length < 60:=by simp only [decide_eq_false_iff_not] at c60; omega
       have hstp : stepP K.length E K A x = Gm.goP K.length E K A:=by unfold stepP; rw [if_neg hE60]
       rw [hstp] at hgo
       refine ⟨rfl,m,qe,qa,qse,E,A,?_,hl,hgo,hst.gi,hst.ok.1,by omega⟩
       simp only [mvcgen_simp,method_specs_simp,seval,encGr,encEv]
      rintro st' ⟨mm,qe',qa',qse',E',A',hj,hl2,hgo2,hgi2,hok2,hAK2⟩
      refine SW.jk hj ?_
      obtain ⟨M3,hM3⟩ : ∃ M3,mm.length = M3:=⟨_,rfl⟩
      have d8a:=boxAt_of hl2.b8
      have d8v:=boxLv_of hl2.b8
      have d4a:=boxAt_of hl2.b4
      have d4v:=boxLv_of hl2.b4
      have d9a:=boxAt_of hl2.b9
      have d9v:=boxLv_of hl2.b9
      have dea:=arrAt_of hl2.e.arr
      have dka:=arrAt_of hl2.k.arr
      have db8:=hl2.b8
      have db9:=hl2.b9
      have db4:=hl2.b4
      have deg:=hl2.e.arr
      have dkg:=hl2.k.arr
      refine SW.seq (CW.sound ?_)
      simp only [method_specs_simp,seval,encGr,encEv,d8a,dea,dka,db8,deg,dkg]
      refine clY.conD 4 (c_indexFB K 164 [.agg (encGr ⟨g.room,E',K⟩)] (Gm.allIn E') ⟨encGr_ref1 _ _,trivial⟩ (fun y hy=>c_complete ⟨g.room,E',K⟩ y (hst.ok.2.1 y hy) (by have:=hgi2.el; show E'.length * 96 ≤ _; omega) hgi2.se) (by omega)) ?_ ⟨of_eq_true (encEv_refs _ _),⟨⟨encGr_ref1 _ _,trivial⟩,trivial⟩,trivial⟩ trivial ?_
      ·have a1:=hl2.k.dcv 2
       have a2:=hl2.e.dcv 0
       have a3:=hl2.k.dcv 0
       show [dcv 4 mm (.ar qp 0 K.length),.fn 164 [.agg [.int .i64 g.room,dcv 2 mm (.ar qe' 0 E'.length),dcv 2 mm (.ar qp 0 K.length)]] []] = _
       rw [a1,a2,a3]; rfl
      simp only [method_specs_simp,seval,encGr,encEv]
      cases c7 : K.any (Gm.allIn E') with
      | false =>
       rw [show idxP (Gm.allIn E') K = -1 by unfold idxP; rw [c7]; rfl]
       rw [goP_none c7] at hgo2
       rw [Gm_putP_whole (by unfold Gm.thereP; rw [q1,q2]; rfl) (by unfold Gm.fullP; rw [q3,q4]; rfl) q4 hgo2.symm]
       refine SW.seq (SW.seq (CW.sound ?_))
       simp only [method_specs_simp,seval,encGr,encEv]
       refine SW.cond (b:=true) rfl (fun _=>?_) (fun h=>by cases h)
       refine SW.seq (CW.sound ?_)
       simp only [method_specs_simp,seval,encGr,encEv,d8a,d4a,d4v,db8,db4,deg,dkg,hl2.a]
       refine CW.sound ?_
       have n1:=hl2.e.nb hl2.b4
       have n2:=hl2.k.nb hl2.b4
       have r1:=hl2.e.set (ob:=Ob.box true [.int .i64 g.room,.ar qe' 0 E'.length,.ar qp 0 K.length,.ar qa' 0 A'.length,.int .i64 0]) n1.1 n1.2
       have r2:=hl2.k.set (ob:=Ob.box true [.int .i64 g.room,.ar qe' 0 E'.length,.ar qp 0 K.length,.ar qa' 0 A'.length,.int .i64 0]) n2.1 n2.2
       have r3:=set_ne' (ob:=Ob.box true [.int .i64 g.room,.ar qe' 0 E'.length,.ar qp 0 K.length,.ar qa' 0 A'.length,.int .i64 0]) hl2.a (ob_ne hl2.b4 hl2.a box_arr)
       have r4 : (mm.set 2 (Ob.box true [.int .i64 g.room,.ar qe' 0 E'.length,.ar qp 0 K.length,.ar qa' 0 A'.length,.int .i64 0]))[2]? = some (Ob.box true [.int .i64 g.room,.ar qe' 0 E'.length,.ar qp 0 K.length,.ar qa' 0 A'.length,.int .i64 0]):=ZO (hl2.lt hl2.b4)
       have r5:=res_po (room:=g.room) (c:=0) r1 r2 r3 hl2.nd hl2.ne
       obtain ⟨m4,hm4⟩ : ∃ m4,m4 = mm.set 2 (Ob.box true [.int .i64 g.room,.ar qe' 0 E'.length,.ar qp 0 K.length,.ar qa' 0 A'.length,.int .i64 0]):=⟨_,rfl⟩
       rw [← hm4] at r4 r5 ⊢
       simp only [method_specs_simp,seval,encGr,encEv,r4,boxAt_of r4]
       exact r5
      | true =>
       rw [show idxP (Gm.allIn E') K = ((K.findIdx (Gm.allIn E') : Nat) : Int) by unfold idxP; rw [c7]; rfl]
       obtain ⟨y,hy,hgo3⟩:=goP_some (A:=A') c7
       obtain ⟨i,hi⟩ : ∃ i,K.findIdx (Gm.allIn E') = i:=⟨_,rfl⟩
       rw [hi] at hy hgo3 ⊢
       have hil:=(Zf.1 hy).1
       have hkl2:=hst.kl
       refine SW.seq (SW.seq (CW.sound ?_))
       simp only [method_specs_simp,seval,encGr,encEv]
       rw [show decide ((i : Int) < 0) = false by simp]
       refine SW.cond (b:=false) rfl (fun h=>by cases h) (fun _=>?_)
       refine SW.skip ?_
       show Go.Pm.SW P _ _ _
       obtain ⟨p,hp1,hp2⟩:=hl2.k.at_ i y hy
       have hrow:=rowsQ_get _ _ i _ _ hp1 hy
       refine SW.seq (CW.sound ?_)
       simp only [method_specs_simp,seval,encGr,encEv,d8a,dka,d9a,d9v,db8,db9,dkg,hrow]
       refine ⟨by omega,by omega,Zu 9,List.all_eq_true.2 (rowEv_one ⟨y,hp2⟩),rfl,Zu 9,?_⟩
       rw [show ZK 9 (rowEv p y) ++ List.drop (ZK 9 (rowEv p y)).length (rowEv pn x) = rowEv p y from rfl]
       have hl4:=hl2.next hp1 hy
       obtain ⟨m4,hm4⟩ : ∃ m4,m4 = mm.set o9 (.box true (rowEv p y)):=⟨_,rfl⟩
       rw [← hm4] at hl4 ⊢
       have f8a:=boxAt_of hl4.b8
       have f8v:=boxLv_of hl4.b8
       have fka:=arrAt_of hl4.k.arr
       have fb8:=hl4.b8
       have fkg:=hl4.k.arr
       refine CW.sound ?_
       simp only [method_specs_simp,seval,encGr,encEv,f8a,fka,fb8,fkg]
       rw [wrap_id (by omega) (by omega)]
       refine clY.delE (i:=i) hl4.k rfl hil (by omega) ?_
       obtain ⟨m5,hm5⟩ : ∃ m5,m5 = m4.set qp .dead ++ [.arr true 9 ((rowsQ qsp K).take i ++ (rowsQ qsp K).drop (i + 1))]:=⟨_,rfl⟩
       obtain ⟨hb5,hl5⟩:=hl4.del hil rfl hm5
       have hb5a:=boxAt_of hb5
       have hb5v:=boxLv_of hb5
       have hnew5 : m5[m4.length]? = some (.arr true 9 ((rowsQ qsp K).take i ++ (rowsQ qsp K).drop (i + 1))):=by
        rw [hm5,Ze (by rw [Zn]; exact Zu _),Zn,Zk]; rfl
       have hnew5a:=arrAt_of hnew5
       rw [← hm5]
       simp only [method_specs_simp,seval,encGr,encEv,hb5,hb5a,hb5v,hnew5,hnew5a]
       obtain ⟨m6,hm6⟩ : ∃ m6,m6 = m5.set o8 (.box true [.int .i64 g.room,.ar qe' 0 E'.length,.ar m4.length 0 (K.length - 1),.ar qa' 0 A'.length,.int .i64 0]):=⟨_,rfl⟩
       rw [← hm6] at hl5 ⊢
       obtain ⟨M6,hM6⟩ : ∃ M6,m6.length = M6:=⟨_,rfl⟩
       have hp6 : Past m6 M6:=Past.mk' hM6
       have g9a:=boxAt_of hl5.b9
       have gb9:=hl5.b9
       refine SW.seq (CW.sound ?_)
       simp only [method_specs_simp,seval,encGr,encEv,g9a,gb9,rowEv]
       have hp9 : m6[p]? = some (obI y):=hl5.p
       have hpM : p < M6:=by rw [← hM6]; exact hl5.lt hp9
       refine CW.sound ?_
       simp only [method_specs_simp,seval,encGr,encEv,Zb,Zc,Zd,hp6.len,hp6.g0,hp6.g,hp6.b0,hp6.b,hp6.v0,hp6.v,hp6.a0,hp6.a,hp6.w0,hp6.w,hp6.s0,hp6.s]
       refine ⟨by rw [app_get hp9]; rfl,?_⟩
       have hnd4:=hl4.nd
       have hsl:=ZU hil
       have hps : p ∈ qsp:=ZE hp1
       have hperm : (qsp.eraseIdx i) = qsp.eraseIdx i:=rfl
       refine AgainJ.mk ⟨m6 ++ [.box true (rowEv p y)],o8,M6,qe',m4.length,qa',p,qse',qsp.eraseIdx i,E',K.eraseIdx i,A',y⟩ ⟨hl5.fresh hM6,⟨(hgi2.step hy).2.1,(hgi2.step hy).1,hgi2.sk.gone hy,⟨hok2,fun z hz=>hst.ok.2.1 z (Yw hz),hst.ok.2.1 y (ZE hy)⟩,by rw [hsl]; omega⟩,hgo3.symm.trans hgo2,by show A'.length + (K.eraseIdx i).length ≤ 20; rw [hsl]; omega,fun h=>?_,fun h=>?_⟩ (by show (K.eraseIdx i).length < K.length; rw [hsl]; omega) ?_
       ·have h0:=Zv.1 hnd4
        have h2:=ZC.1 h0.2
        rcases Zi.1 h with h | h
        ·exact h2.2.2 p h p hps rfl
        ·have hpl:=(Zf.1 hp1)
         obtain ⟨hpl1,hpl2⟩:=hpl
         rw [List.mem_eraseIdx_iff_getElem?] at h
         obtain ⟨j,hj,hj2⟩:=h
         have:=(List.getElem?_inj hpl1 h2.2.1).1 (hp1.trans hj2.symm)
         exact hj this.symm
       ·have h0:=Zv.1 hnd4
        have h : p = qa':=h
        exact h0.1 (ZD _ (by rw [← h]; exact hps))
       ·simp only [mvcgen_simp,method_specs_simp,seval,encGr,encEv,Zb,Zc,Zd,hp6.len,hp6.g0,hp6.g,hp6.b0,hp6.b,hp6.v0,hp6.v,hp6.a0,hp6.a,hp6.w0,hp6.w,hp6.s0,hp6.s,rowEv]
    | false =>
     simp only [method_specs_simp,seval,encGr,encEv]
     cases q5 : g.parked.length == 20 with
     | true =>
      have hpp : Gm.putP g e = Gm.illP 9:=by unfold Gm.putP Gm.thereP Gm.fullP; rw [q1,q2,q3,q4,q5]; rfl
      rw [hpp]
      refine SW.cond (b:=true) rfl (fun _=>?_) (fun h=>by cases h)
      refine SW.seq (CW.sound ?_)
      simp only [method_specs_simp,seval,encGr,encEv]
      refine SW.nilcell 2 1 9 rfl rfl (by decide) ?_
      refine SW.nilcell 2 2 9 rfl rfl (by decide) ?_
      refine SW.nilcell 2 3 1 rfl rfl (by decide) ?_
      refine CW.sound ?_
      simp only [method_specs_simp,seval,encGr,encEv]
      exact LResY.ill (m:=[_,_,_]) rfl
     | false =>
      refine SW.cond (b:=false) rfl (fun h=>by cases h) (fun _=>?_)
      refine SW.skip ?_
      show Go.Pm.SW P _ _ _
      refine SW.seq (CW.sound ?_)
      simp only [method_specs_simp,seval,encGr,encEv]
      refine clY.newD 0 hcp (dcv_zero _ _) (by simp only [method_specs_simp,encGr]) (grV_flat 0 g) (obG_flat g) ?_
      rw [obG_ren,hl3]
      obtain ⟨G,hG⟩ : ∃ G,G = obGb 3 g:=⟨_,rfl⟩
      obtain ⟨N,hN⟩ : ∃ N,G.length = N:=⟨_,rfl⟩
      have hp : Past G N:=Past.mk' hN
      have hA0 : ∀ L : List Ob,(G ++ L)[0]? = some (.arr true 9 (rowsEv 4 g.events)):=fun L=>by rw [hG]; rfl
      have hA1 : ∀ (a b c : Ob) (L : List Ob),(a :: b :: c :: (G ++ L))[3 + (g.events.length + 1)]? = some (.arr true 9 (rowsEv (3 + (g.events.length + 1) + 1) g.parked)):=fun a b c L=>by
       rw [show 3 + (g.events.length + 1) = (g.events.length + 1) + 1 + 1 + 1 by omega,Za,Za,Za,hG,obGb_at]
       rw [show 3 + (g.events.length + 1) = g.events.length + 1 + 1 + 1 + 1 by omega]
      rw [← hG]
      simp only [method_specs_simp,seval,encGr,encEv,hp.len,hp.g0,hp.g,hp.b0,hp.b,hp.v0,hp.v,hp.a0,hp.a,hp.w0,hp.w,hp.s0,hp.s,Zb,Zc,Zd,hA0,hA1,grV]
      refine SW.seq (SW.seq (CW.sound ?_))
      simp only [method_specs_simp,seval,encGr,encEv,hp.len,hp.g0,hp.g,hp.b0,hp.b,hp.v0,hp.v,hp.a0,hp.a,hp.w0,hp.w,hp.s0,hp.s,Zb,Zc,Zd,hA0,hA1]
      refine SW.cond (b:=true) rfl (fun _=>?_) (fun h=>by cases h)
      refine SW.seq (SW.drawn 5 mixed (by kernel_rfl) ?_)
      show RQi P _ _ _ _ _
      simp only [method_specs_simp,seval,encGr,encEv,hp.len,hp.g0,hp.g,hp.b0,hp.b,hp.v0,hp.v,hp.a0,hp.a,hp.w0,hp.w,hp.s0,hp.s,Zb,Zc,Zd,hA0,hA1,Za,Ym]
      refine clY.new (n_copied e he) (by simp only [method_specs_simp,encEv]) ?_
      simp only [method_specs_simp,seval,encGr,encEv,hp.len,hp.g0,hp.g,hp.b0,hp.b,hp.v0,hp.v,hp.a0,hp.a,hp.w0,hp.w,hp.s0,hp.s,Zb,Zc,Zd,hA0,hA1,rowEv]
      have hkl:=hw.kl
      have hNl : N = g.events.length + 1 + (g.parked.length + 1):=by rw [← hN,hG,obGb_len]
      obtain ⟨LE,LK⟩:=lies_par hG (.box true (encGr g)) (.box true (encEv e)) (.box true [.int .i64 0,.nil,.nil,.nil,.int .i64 0]) [.box true [.int .i64 g.room,.ar 3 0 g.events.length,.ar (3 + (g.events.length + 1)) 0 g.parked.length,.nil,.int .i64 0],obI e]
      obtain ⟨m,hm⟩ : ∃ m,m = Ob.box true (encGr g) :: .box true (encEv e) :: .box true [.int .i64 0,.nil,.nil,.nil,.int .i64 0] :: (G ++ [.box true [.int .i64 g.room,.ar 3 0 g.events.length,.ar (3 + (g.events.length + 1)) 0 g.parked.length,.nil,.int .i64 0],obI e]):=⟨_,rfl⟩
      have hml : m.length = N + 5:=by rw [hm]; simp only [Zl,Zj,hN,ZN]
      have hm2 : m[2]? = some (.box true [.int .i64 0,.nil,.nil,.nil,.int .i64 0]):=by rw [hm]; rfl
      have hm8 : m[N + 3]? = some (.box true [.int .i64 g.room,.ar 3 0 g.events.length,.ar (3 + (g.events.length + 1)) 0 g.parked.length,.nil,.int .i64 0]):=by
       rw [hm,Za,Za,Za,hp.g0]; rfl
      have hmE : m[N + 4]? = some (obI e):=by
       rw [hm,Za,Za,Za,hp.g]; rfl
      rw [← hm] at LE LK
      simp only [encGr,encEv] at hm
      rw [← hm]
      have q8 : (3 + (g.events.length + 1)) ≠ N + 3:=by omega
      have hnd : (m.length :: (Zh 4 g.events.length ++ Zh (3 + (g.events.length + 1) + 1) g.parked.length)).Nodup:=by
       rw [Zv,ZC]
       refine ⟨fun h=>?_,ZR,ZR,fun a ha b hb=>?_⟩
       ·rcases Zi.1 h with h | h <;> (have:=ZB.1 h; omega)
       ·have:=ZB.1 ha
        have:=ZB.1 hb
        omega
      have hN4 : N + 4 ∉ Zh (3 + (g.events.length + 1) + 1) g.parked.length:=fun h=>by have:=ZB.1 h; omega
      refine clY.insE (e:=e) (Gm.hasId g.parked e.id) LK hmE hN4 rfl (by omega) hf ?_
      have LK2:=LK.ins hmE hN4 (i:=Gm.posE g.parked e.id) (Gm.posE_le _ _)
      obtain ⟨m1,hm1⟩ : ∃ m1,m1 = m.set (3 + (g.events.length + 1)) .dead ++ [.arr true 9 ((rowsQ (Zh (3 + (g.events.length + 1) + 1) g.parked.length) g.parked).take (Gm.posE g.parked e.id) ++ rowEv (N + 4) e :: (rowsQ (Zh (3 + (g.events.length + 1) + 1) g.parked.length) g.parked).drop (Gm.posE g.parked e.id))]:=⟨_,rfl⟩
      have LE2 : LiesQ m1 3 (Zh 4 g.events.length) g.events:=by
       rw [hm1]
       exact (LE.set (by omega) (LE.ni LK.arr)).app _
      have h12 : m1[2]? = some (.box true [.int .i64 0,.nil,.nil,.nil,.int .i64 0]):=by rw [hm1]; exact app_get (set_ne' hm2 (by omega))
      have h18 : m1[N + 3]? = some (.box true [.int .i64 g.room,.ar 3 0 g.events.length,.ar (3 + (g.events.length + 1)) 0 g.parked.length,.nil,.int .i64 0]):=by rw [hm1]; exact app_get (set_ne' hm8 q8)
      have h1N : m1[m.length]? = some (.arr true 9 ((rowsQ (Zh (3 + (g.events.length + 1) + 1) g.parked.length) g.parked).take (Gm.posE g.parked e.id) ++ rowEv (N + 4) e :: (rowsQ (Zh (3 + (g.events.length + 1) + 1) g.parked.length) g.parked).drop (Gm.posE g.parked e.id))):=by
       rw [hm1,Ze (by rw [Zn]; exact Zu _),Zn,Zk]; rfl
      have hm1l : m1.length = N + 6:=by rw [hm1,Zj,Zn,hml]; rfl
      rw [← hm1] at LK2 ⊢
      have a18:=boxAt_of h18
      have v18:=boxLv_of h18
      have a1N:=arrAt_of h1N
      simp only [method_specs_simp,seval,encGr,encEv,hp.len,hp.g0,hp.g,hp.b0,hp.b,hp.v0,hp.v,hp.a0,hp.a,hp.w0,hp.w,hp.s0,hp.s,Zb,Zc,Zd,hA0,hA1,h18,a18,v18,h1N,a1N]
      rw [show N + 1 + 1 + 1 = N + 3 from rfl]
      refine SW.nilcell (N + 3) 3 1 (ZO (by omega)) rfl (by decide) ?_
      rw [Zn,List.set_set,hm1l]
      have n1:=LE2.nb h18
      have n2:=LK2.nb h18
      have s1:=(LE2.set (ob:=Ob.box true [.int .i64 g.room,.ar 3 0 g.events.length,.ar m.length 0 (g.parked.length + 1),.ar (N + 6) 0 0,.int .i64 0]) n1.1 n1.2).app [.arr true 1 []]
      have s2:=(LK2.set (ob:=Ob.box true [.int .i64 g.room,.ar 3 0 g.events.length,.ar m.length 0 (g.parked.length + 1),.ar (N + 6) 0 0,.int .i64 0]) n2.1 n2.2).app [.arr true 1 []]
      have s3 : (m1.set (N + 3) (Ob.box true [.int .i64 g.room,.ar 3 0 g.events.length,.ar m.length 0 (g.parked.length + 1),.ar (N + 6) 0 0,.int .i64 0]) ++ [Ob.arr true 1 []])[N + 6]? = some (.arr true 1 []):=by
       rw [Ze (by rw [Zn]; omega),Zn,hm1l,Zk]; rfl
      have s4 : (m1.set (N + 3) (Ob.box true [.int .i64 g.room,.ar 3 0 g.events.length,.ar m.length 0 (g.parked.length + 1),.ar (N + 6) 0 0,.int .i64 0]) ++ [Ob.arr true 1 []])[N + 3]? = some (Ob.box true [.int .i64 g.room,.ar 3 0 g.events.length,.ar m.length 0 (g.parked.length + 1),.ar (N + 6) 0 0,.int .i64 0]):=app_get (ZO (by omega))
      have s5 : (m1.set (N + 3) (Ob.box true [.int .i64 g.room,.ar 3 0 g.events.length,.ar m.length 0 (g.parked.length + 1),.ar (N + 6) 0 0,.int .i64 0]) ++ [Ob.arr true 1 []])[2]? = some (.box true [.int .i64 0,.nil,.nil,.nil,.int .i64 0]):=app_get (set_ne' h12 (by omega))
      obtain ⟨m4,hm4⟩ : ∃ m4,m4 = m1.set (N + 3) (Ob.box true [.int .i64 g.room,.ar 3 0 g.events.length,.ar m.length 0 (g.parked.length + 1),.ar (N + 6) 0 0,.int .i64 0]) ++ [Ob.arr true 1 []]:=⟨_,rfl⟩
      rw [← hm4] at s1 s2 s3 s4 s5
      simp only [Yf,YE]
      rw [← hm4]
      have s4a:=boxAt_of s4
      have s5a:=boxAt_of s5
      have s5v:=boxLv_of s5
      have s1g:=s1.arr
      have s2g:=s2.arr
      refine SW.seq (CW.sound ?_)
      simp only [method_specs_simp,seval,encGr,encEv,hp.len,hp.g0,hp.g,hp.b0,hp.b,hp.v0,hp.v,hp.a0,hp.a,hp.w0,hp.w,hp.s0,hp.s,Zb,Zc,Zd,hA0,hA1,s4,s4a,s5,s5a,s5v,s1g,s2g,s3]
      refine CW.sound ?_
      have hsl : (g.parked.take (Gm.posE g.parked e.id) ++ e :: g.parked.drop (Gm.posE g.parked e.id)).length = g.parked.length + 1:=Gm.insE_len _ _
      rw [Gm_putP_parked (by unfold Gm.thereP; rw [q1,q2]; rfl) (by unfold Gm.fullP; rw [q3,q4,q5]; rfl) q4]
      have nd4 : ((N + 6) :: (Zh 4 g.events.length ++ ((Zh (3 + (g.events.length + 1) + 1) g.parked.length).take (Gm.posE g.parked e.id) ++ (N + 4) :: (Zh (3 + (g.events.length + 1) + 1) g.parked.length).drop (Gm.posE g.parked e.id)))).Nodup:=by
       have hx:=LK2.nd
       rw [Zv,ZC]
       have hr : ∀ b,b ∈ (Zh (3 + (g.events.length + 1) + 1) g.parked.length).take (Gm.posE g.parked e.id) ++ (N + 4) :: (Zh (3 + (g.events.length + 1) + 1) g.parked.length).drop (Gm.posE g.parked e.id) → b < N + 5 ∧ 4 + g.events.length ≤ b:=fun b hb=>by
        rcases Zi.1 hb with hb | hb
        ·have:=ZB.1 (ZH hb); omega
        rcases Zm.1 hb with rfl | hb
        ·omega
        ·have:=ZB.1 (ZI hb); omega
       refine ⟨fun h=>?_,ZR,hx,fun a ha b hb=>?_⟩
       ·rcases Zi.1 h with h | h
        ·have:=ZB.1 h; omega
        ·have:=hr _ h; omega
       ·have:=ZB.1 ha
        have:=hr _ hb
        omega
      obtain ⟨m5,hm5⟩ : ∃ m5,m5 = m4.set 2 (Ob.box true [.int .i64 g.room,.ar 3 0 g.events.length,.ar m.length 0 (g.parked.length + 1),.ar (N + 6) 0 0,.int .i64 0]):=⟨_,rfl⟩
      have r6:=s1.nb s5
      have r7:=s2.nb s5
      have r1:=s1.set (ob:=Ob.box true [.int .i64 g.room,.ar 3 0 g.events.length,.ar m.length 0 (g.parked.length + 1),.ar (N + 6) 0 0,.int .i64 0]) r6.1 r6.2
      have r2:=s2.set (ob:=Ob.box true [.int .i64 g.room,.ar 3 0 g.events.length,.ar m.length 0 (g.parked.length + 1),.ar (N + 6) 0 0,.int .i64 0]) r7.1 r7.2
      have r3:=set_ne' (ob:=Ob.box true [.int .i64 g.room,.ar 3 0 g.events.length,.ar m.length 0 (g.parked.length + 1),.ar (N + 6) 0 0,.int .i64 0]) s3 (show 2 ≠ N + 6 by omega)
      have r4 : (m4.set 2 (Ob.box true [.int .i64 g.room,.ar 3 0 g.events.length,.ar m.length 0 (g.parked.length + 1),.ar (N + 6) 0 0,.int .i64 0]))[2]? = some (Ob.box true [.int .i64 g.room,.ar 3 0 g.events.length,.ar m.length 0 (g.parked.length + 1),.ar (N + 6) 0 0,.int .i64 0]):=ZO (Zf.1 s5).1
      have r5:=res_po (room:=g.room) (c:=0) (A:=[]) r1 r2 r3 nd4 (by omega)
      rw [hsl] at r5
      rw [← hm5] at r4 r5 ⊢
      simp only [method_specs_simp,seval,encGr,encEv,hp.len,hp.g0,hp.g,hp.b0,hp.b,hp.v0,hp.v,hp.a0,hp.a,hp.w0,hp.w,hp.s0,hp.s,Zb,Zc,Zd,hA0,hA1,r4,boxAt_of r4]
      exact r5
end
def gpP (g : Gr) (e : Ev) : Gm.Po:=if Gm.grRight g && (Gm.evRight e && (e.room == g.room)) then Gm.putP g e else Gm.illP 1
theorem lies_po {o : Gm.Po} : ∀ ob ∈ obP o,ob.refs (· < (obP o).length):=fun ob ho=>by
 have hl:=obP_len o
 unfold obP at ho
 rcases Zi.1 ho with ho | ho
 ·have h:=obG_refs o.g ob ho
  rw [obG_len] at h
  rw [hl]
  cases ob with
  | hole=>trivial
  | dead=>trivial
  | box lv cs=>exact Refs.mono (fun q h=>by omega) _ h
  | arr lv sz xs=>exact Refss.mono (fun q h=>by omega) _ h
  | mp lv ks vs=>exact ⟨Refs.mono (fun q h=>by omega) _ h.1,Refs.mono (fun q h=>by omega) _ h.2⟩
 ·rw [Zt] at ho
  subst ho
  exact of_eq_true (encI_refs _ o.added)
theorem poV_refs {o : Gm.Po} : Ref (· < (obP o).length) (.agg (poV o)):=by
 rw [obP_len]
 exact ⟨trivial,by show 0 < _; omega,by show o.g.events.length + 1 < _; omega,by show o.g.events.length + 1 + (o.g.parked.length + 1) < _; omega,trivial,trivial⟩
theorem poV_flat (o : Gm.Po) : Flat (.agg (poV o)):=by
 simp only [poV,Flat,Flats,and_self]
theorem obP_flat (o : Gm.Po) : ∀ ob ∈ obP o,ob.flat:=fun ob ho=>by
 unfold obP at ho
 rcases Zi.1 ho with ho | ho
 ·exact obG_flat _ ob ho
 ·rw [Zt] at ho
  subst ho
  refine ⟨rfl,?_⟩
  induction o.added with
  | nil=>trivial
  | cons a l ih=>exact ⟨⟨trivial,trivial⟩,ih⟩
def obPb (b : Nat) (o : Gm.Po) : List Ob:=obGb b o.g ++ [.arr true 1 (o.added.map encI)]
theorem obP_ren (b : Nat) (o : Gm.Po) : (obP o).map (Ob.ren (b + ·)) = obPb b o:=by
 unfold obP obPb
 rw [Zq,obG_ren]
 simp only [Zx,Yg,Ob.ren,encI_rens]
theorem obPb_len (b : Nat) (o : Gm.Po) : (obPb b o).length = o.g.events.length + 1 + (o.g.parked.length + 1) + 1:=by unfold obPb; rw [Zj,obGb_len]; rfl
theorem obPb_0 (b : Nat) (o : Gm.Po) : (obPb b o)[0]? = some (.arr true 9 (rowsEv (b + 1) o.g.events)):=rfl
theorem obPb_1 (b : Nat) (o : Gm.Po) : (obPb b o)[o.g.events.length + 1]? = some (.arr true 9 (rowsEv (b + (o.g.events.length + 1) + 1) o.g.parked)):=by
 unfold obPb obGb
 rw [Zb,Ze (by rw [obEb_len]; exact Zu _),obEb_len,Zk]; rfl
theorem obPb_2 (b : Nat) (o : Gm.Po) : (obPb b o)[o.g.events.length + 1 + (o.g.parked.length + 1)]? = some (.arr true 1 (o.added.map encI)):=by
 unfold obPb
 rw [Ze (by rw [obGb_len]; exact Zu _),obGb_len,Zk]; rfl
section
variable {P : Program} [Is P]
theorem n_GraphPut (g : Gr) (e : Ev) (hg : GrOK g) (he : EvOK e) : LCon P 44 [.agg (encGr g),.agg (encEv e)] [] (.agg (poV (gpP g e))) (obP (gpP g e)):=by
 have h1:=c_GraphRight (P:=P) g hg
 have h2:=c_EventRight (P:=P) e he
 cases r1 : Gm.grRight g with
 | false =>
  rw [r1] at h1
  have hpp : gpP g e = Gm.illP 1:=by unfold gpP; rw [r1]; rfl
  rw [hpp]
  refine LCon.ofS (n:=24) (rs:=[.cell 4 77]) (Is.fn Try.func44) rfl (Is.call Try.call44) Try.results44 Try.ntmps44 ?_
  refine SW.seq (CW.sound ?_)
  simp only [method_specs_simp,seval,encGr,encEv]
  refine SW.seq (SW.seq (CW.sound ?_))
  simp only [method_specs_simp,seval,encGr,encEv]
  refine clY.con h1 (by simp only [method_specs_simp,encGr]) ?_
  simp only [method_specs_simp,seval,encGr,encEv]
  refine SW.cond (b:=true) rfl (fun _=>?_) (fun h=>by cases h)
  refine SW.seq (CW.sound ?_)
  simp only [method_specs_simp,seval,encGr,encEv]
  refine SW.nilcell 2 1 9 rfl rfl (by decide) ?_
  refine SW.nilcell 2 2 9 rfl rfl (by decide) ?_
  refine SW.nilcell 2 3 1 rfl rfl (by decide) ?_
  refine CW.sound ?_
  simp only [method_specs_simp,seval,encGr,encEv]
  exact LResY.ill (m:=[_,_,_]) rfl
 | true =>
  rw [r1] at h1
  cases r2 : Gm.evRight e with
  | false =>
   rw [r2] at h2
   have hpp : gpP g e = Gm.illP 1:=by unfold gpP; rw [r1,r2]; rfl
   rw [hpp]
   refine LCon.ofS (n:=24) (rs:=[.cell 4 77]) (Is.fn Try.func44) rfl (Is.call Try.call44) Try.results44 Try.ntmps44 ?_
   refine SW.seq (CW.sound ?_)
   simp only [method_specs_simp,seval,encGr,encEv]
   refine SW.seq (SW.seq (CW.sound ?_))
   simp only [method_specs_simp,seval,encGr,encEv]
   refine clY.con h1 (by simp only [method_specs_simp,encGr]) ?_
   simp only [method_specs_simp,seval,encGr,encEv]
   refine clY.con h2 (by simp only [method_specs_simp,encEv]) ?_
   simp only [method_specs_simp,seval,encGr,encEv]
   refine SW.cond (b:=true) rfl (fun _=>?_) (fun h=>by cases h)
   refine SW.seq (CW.sound ?_)
   simp only [method_specs_simp,seval,encGr,encEv]
   refine SW.nilcell 2 1 9 rfl rfl (by decide) ?_
   refine SW.nilcell 2 2 9 rfl rfl (by decide) ?_
   refine SW.nilcell 2 3 1 rfl rfl (by decide) ?_
   refine CW.sound ?_
   simp only [method_specs_simp,seval,encGr,encEv]
   exact LResY.ill (m:=[_,_,_]) rfl
  | true =>
   rw [r2] at h2
   cases r3 : e.room == g.room with
   | false =>
    have hpp : gpP g e = Gm.illP 1:=by unfold gpP; rw [r1,r2,r3]; rfl
    rw [hpp]
    have r4 : (e.room != g.room) = true:=by unfold bne; rw [r3]; rfl
    refine LCon.ofS (n:=24) (rs:=[.cell 4 77]) (Is.fn Try.func44) rfl (Is.call Try.call44) Try.results44 Try.ntmps44 ?_
    refine SW.seq (CW.sound ?_)
    simp only [method_specs_simp,seval,encGr,encEv]
    refine SW.seq (SW.seq (CW.sound ?_))
    simp only [method_specs_simp,seval,encGr,encEv]
    refine clY.con h1 (by simp only [method_specs_simp,encGr]) ?_
    simp only [method_specs_simp,seval,encGr,encEv]
    refine clY.con h2 (by simp only [method_specs_simp,encEv]) ?_
    simp only [method_specs_simp,seval,encGr,encEv,r4]
    refine SW.cond (b:=true) rfl (fun _=>?_) (fun h=>by cases h)
    refine SW.seq (CW.sound ?_)
    simp only [method_specs_simp,seval,encGr,encEv]
    refine SW.nilcell 2 1 9 rfl rfl (by decide) ?_
    refine SW.nilcell 2 2 9 rfl rfl (by decide) ?_
    refine SW.nilcell 2 3 1 rfl rfl (by decide) ?_
    refine CW.sound ?_
    simp only [method_specs_simp,seval,encGr,encEv]
    exact LResY.ill (m:=[_,_,_]) rfl
   | true =>
    have hpp : gpP g e = Gm.putP g e:=by unfold gpP; rw [r1,r2,r3]; rfl
    rw [hpp]
    have hn:=n_put (P:=P) g e hg he (Gm.right_wl r1)
    have r4 : (e.room != g.room) = false:=by unfold bne; rw [r3]; rfl
    refine LCon.ofS (n:=24) (rs:=[.cell 4 77]) (Is.fn Try.func44) rfl (Is.call Try.call44) Try.results44 Try.ntmps44 ?_
    refine SW.seq (CW.sound ?_)
    simp only [method_specs_simp,seval,encGr,encEv]
    refine SW.seq (SW.seq (CW.sound ?_))
    simp only [method_specs_simp,seval,encGr,encEv]
    refine clY.con h1 (by simp only [method_specs_simp,encGr]) ?_
    simp only [method_specs_simp,seval,encGr,encEv]
    refine clY.con h2 (by simp only [method_specs_simp,encEv]) ?_
    simp only [method_specs_simp,seval,encGr,encEv,r4]
    refine SW.cond (b:=false) rfl (fun h=>by cases h) (fun _=>?_)
    refine SW.skip ?_
    show Go.Pm.SW P _ _ _
    refine SW.seq (CW.sound ?_)
    simp only [method_specs_simp,seval,encGr,encEv]
    refine clY.newD 0 hn (dcv_zero _ _) (by simp only [method_specs_simp,encGr,encEv]) (poV_flat _) (obP_flat _) ?_
    obtain ⟨o,ho⟩ : ∃ o,o = Gm.putP g e:=⟨_,rfl⟩
    rw [← ho]
    have hl3 : ∀ a b c : Ob,([a,b,c] : List Ob).length = 3:=fun _ _ _=>rfl
    rw [obP_ren,hl3]
    have g0:=obPb_0 3 o
    have g1 : ∀ a b c : Ob,(a :: b :: c :: obPb 3 o)[3 + (o.g.events.length + 1)]? = _:=fun a b c=>by
     rw [show 3 + (o.g.events.length + 1) = (o.g.events.length + 1) + 1 + 1 + 1 by omega,Za,Za,Za,obPb_1]
    have g2 : ∀ a b c : Ob,(a :: b :: c :: obPb 3 o)[3 + (o.g.events.length + 1 + (o.g.parked.length + 1))]? = _:=fun a b c=>by
     rw [show 3 + (o.g.events.length + 1 + (o.g.parked.length + 1)) = (o.g.events.length + 1 + (o.g.parked.length + 1)) + 1 + 1 + 1 by omega,Za,Za,Za,obPb_2]
    simp only [method_specs_simp,seval,encGr,encEv,poV,g0,g1,g2]
    refine CW.sound ?_
    simp only [method_specs_simp,seval,encGr,encEv,poV,g0,g1,g2]
    exact LResY.tail3 (obP_ren 3 o).symm rfl lies_po poV_refs
end
theorem posE_hit {l : List Ev} {id : Int} {k : Nat} {x : Ev} (hx : l[k]? = some x) (h : Gm.posE l id = k + ((l.drop k).takeWhile fun e=>decide (e.id < id)).length) (hd : decide (x.id < id) = true) : k < l.length ∧ Gm.posE l id = (k + 1) + ((l.drop (k + 1)).takeWhile fun e=>decide (e.id < id)).length:=by
 refine ⟨(Zf.1 hx).1,?_⟩
 rw [drop_cons hx,YF,hd,if_pos rfl,Zl] at h
 omega
theorem posE_miss {l : List Ev} {id : Int} {k : Nat} {x : Ev} (hx : l[k]? = some x) (h : Gm.posE l id = k + ((l.drop k).takeWhile fun e=>decide (e.id < id)).length) (hd : decide (x.id < id) = false) : Gm.posE l id = k:=by
 rw [drop_cons hx,YF,hd,if_neg (by decide)] at h
 exact h
theorem flatEv {l : List Ev} {z : V} (hz : z ∈ (l.map encEv).flatten) : (∃ k n,z = .int k n) ∨ (∃ s,z = .str s) ∨ ∃ xs,z = .sl 1 xs:=by
 obtain ⟨c,hc,hz⟩:=Yl.1 hz
 obtain ⟨e,_,rfl⟩:=ZY.1 hc
 simp only [encEv,Zm,ZX,or_false] at hz
 rcases hz with rfl | rfl | rfl | rfl | rfl | rfl | rfl | rfl | rfl <;> first | exact .inl ⟨_,_,rfl⟩ | exact .inr (.inl ⟨_,rfl⟩) | exact .inr (.inr ⟨_,rfl⟩)
theorem lenEv {l : List Ev} {z : List V} (hz : z ∈ l.map encEv) : z.length = 9:=by
 obtain ⟨e,_,rfl⟩:=ZY.1 hz
 rfl
theorem insE_enc {l : List Ev} {e : Ev} {k : Nat} (h : Gm.posE l e.id = k) : (l.map encEv).take k ++ [encEv e] ++ (l.map encEv).drop k = (Gm.insE l e).map encEv:=by
 subst h
 unfold Gm.insE
 simp [ZL,ZM]
section
variable {P : Program} [Is P]
theorem c_l03Put (l : List Ev) (e : Ev) (he : EvOK e) (hx : l.length ≤ 1000000) : Con P 177 [.sl 9 (l.map encEv),.agg (encEv e)] (.sl 9 ((Gm.insE l e).map encEv)):=by
 have hce:=c_l02Copy (P:=P) e he
 refine Con.of (n:=38) (rs:=[.tmp 4]) (Is.fn Try.func177) rfl (Is.call Try.call177) Try.results177 Try.ntmps177 (by simp only [method_specs_simp]) ?_
 simp only [method_specs_simp,seval,encEv]
 refine SW.while (A:=Nat) (fun k=>⟨pad 38 [.sl 9 (l.map encEv),.junk,.junk,.ptr 0 0,.nil,.int .i64 k],[.box true (encEv e)],[]⟩) (fun k=>l.length - k) (fun k=>k ≤ l.length ∧ Gm.posE l e.id = k + ((l.drop k).takeWhile fun x=>decide (x.id < e.id)).length) 0 [0] ⟨Ya _,by rw [ZS]; rfl⟩ ?_ ?_
 ·simp only [mvcgen_simp,method_specs_simp,seval,encEv]
 ·rintro k ⟨hk,hr⟩
  have w1 : IntKind.i64.wrap ((k : Int) + 1) = ((k + 1 : Nat) : Int):=wadd1 k (by omega)
  have hpl:=Gm.posE_le l e.id
  refine CW.sound ?_
  cases hkl : decide ((k : Int) < (l.length : Int)) with
  | true =>
   simp only [decide_eq_true_eq,ZA] at hkl
   obtain ⟨x,hxk⟩ : ∃ x,l[k]? = some x:=⟨_,Zw hkl⟩
   have hk1 : decide ((k : Int) < (l.length : Int)) = true:=by simp; exact hkl
   simp only [method_specs_simp,seval,encEv,hk1,Zp,hxk]
   refine ⟨by kernel_rfl,by omega,by omega,?_⟩
   refine gB_split (fun h1=>?_) (fun h1=>?_)
   ·obtain ⟨q1,q2⟩:=posE_hit hxk hr h1
    refine Again.mk (k + 1) [0] ⟨q1,q2⟩ (by show l.length - (k + 1) < l.length - k; omega) ?_
    simp only [mvcgen_simp,method_specs_simp,seval,encEv,w1]
   ·have q1:=posE_miss hxk hr h1
    refine ⟨by omega,by omega,fun z hz=>lenEv (ZH hz),fun z hz=>?_,by simp; omega,by simp; omega,?_⟩
    ·rw [← ZL] at hz
     rcases flatEv hz with ⟨_,_,rfl⟩ | ⟨_,rfl⟩ | ⟨_,rfl⟩ <;> rfl
    refine clY.con hce (by simp only [method_specs_simp]) ?_
    simp only [method_specs_simp,seval,encEv]
    refine ⟨by simp; omega,by simp; omega,by omega,by omega,by omega,fun z hz=>lenEv (ZI hz),fun z hz=>?_,by simp; omega,by simp; omega,?_⟩
    ·rw [← ZM] at hz
     rcases flatEv hz with ⟨_,_,rfl⟩ | ⟨_,rfl⟩ | ⟨_,rfl⟩ <;> rfl
    have hi:=insE_enc q1
    have hil : (Gm.insE l e).length = l.length + 1:=Gm.insE_len _ _
    have hii : ((l.map encEv).take k ++ [encEv e] ++ (l.map encEv).drop k).length ≤ ((l.map encEv).take k).length + 1 + ((l.map encEv).drop k).length:=by simp; omega
    have hj:=ZJ hii
    rw [hi] at hj
    refine ⟨?_,?_⟩
    ·refine Eq.mpr (congrArg (Refss _) ((congrArg (ZK _) hi).trans ((congrArg (ZK _) hi).symm.trans (by rw [hi]; exact hj)))) (of_eq_true (encEv_refs _ _))
    ·refine (congrArg (ZK _) hi).trans hj
  | false =>
   simp only [method_specs_simp,seval,encEv,hkl]
   have q1 : Gm.posE l e.id = k:=by
    simp only [decide_eq_false_iff_not,ZA] at hkl
    rw [Yv (by omega)] at hr
    exact hr
   refine ⟨by kernel_rfl,by omega,by omega,fun z hz=>lenEv (ZH hz),fun z hz=>?_,by simp; omega,by simp; omega,?_⟩
   ·rw [← ZL] at hz
    rcases flatEv hz with ⟨_,_,rfl⟩ | ⟨_,rfl⟩ | ⟨_,rfl⟩ <;> rfl
   refine clY.con hce (by simp only [method_specs_simp]) ?_
   simp only [method_specs_simp,seval,encEv]
   refine ⟨by simp; omega,by simp; omega,by omega,by omega,by omega,fun z hz=>lenEv (ZI hz),fun z hz=>?_,by simp; omega,by simp; omega,?_⟩
   ·rw [← ZM] at hz
    rcases flatEv hz with ⟨_,_,rfl⟩ | ⟨_,rfl⟩ | ⟨_,rfl⟩ <;> rfl
   have hi:=insE_enc q1
   have hil : (Gm.insE l e).length = l.length + 1:=Gm.insE_len _ _
   have hii : ((l.map encEv).take k ++ [encEv e] ++ (l.map encEv).drop k).length ≤ ((l.map encEv).take k).length + 1 + ((l.map encEv).drop k).length:=by simp; omega
   have hj:=ZJ hii
   rw [hi] at hj
   refine ⟨?_,?_⟩
   ·refine Eq.mpr (congrArg (Refss _) ((congrArg (ZK _) hi).trans ((congrArg (ZK _) hi).symm.trans (by rw [hi]; exact hj)))) (of_eq_true (encEv_refs _ _))
   ·refine (congrArg (ZK _) hi).trans hj
theorem c_l03Free (g : Gr) (hg : GrOK g) : Con P 178 [.agg (encGr g)] (.int .i64 (idxP (Gm.allIn g.events) g.parked)):=by
 have hx:=hg.1.1
 have hy:=hg.2.1
 refine Con.of (n:=20) (rs:=[.tmp 2]) (Is.fn Try.func178) rfl (Is.call Try.call178) Try.results178 Try.ntmps178 trivial ?_
 simp only [method_specs_simp,seval,encGr]
 refine SW.while (A:=Nat) (fun k=>⟨pad 20 [.junk,.ptr 0 0,.int .i64 0,.int .i64 k],[.box true (encGr g)],[]⟩) (fun k=>g.parked.length - k)
  (fun k=>k ≤ g.parked.length ∧ idxP (Gm.allIn g.events) g.parked = if (g.parked.drop k).any (Gm.allIn g.events) then (k : Int) + (((g.parked.drop k).findIdx (Gm.allIn g.events) : Nat) : Int) else -1) 0 [0] ⟨Ya _,by simp [idxP]⟩ ?_ ?_
 ·simp only [mvcgen_simp,method_specs_simp,seval,encGr]
 ·rintro k ⟨hk,hr⟩
  have w1 : IntKind.i64.wrap ((k : Int) + 1) = ((k + 1 : Nat) : Int):=wadd1 k (by omega)
  rw [hr]
  refine CW.sound ?_
  simp only [method_specs_simp,seval,encGr]
  refine gB_split (fun h=>?_) (fun h=>?_)
  ·simp only [decide_eq_true_eq,ZA] at h
   obtain ⟨x,hxk⟩ : ∃ x,g.parked[k]? = some x:=⟨_,Zw h⟩
   have hce:=c_l03All (P:=P) g.events x (hg.2.2 x (ZE hxk)) (by omega)
   rw [drop_cons hxk]
   simp only [method_specs_simp,seval,encGr,Zp,hxk]
   refine ⟨by kernel_rfl,by omega,by omega,?_⟩
   refine clY.con hce ⟨of_eq_true (encEv_refs _ _),encEv_ref1 _ x,trivial⟩ ?_
   simp only [method_specs_simp,seval,encGr]
   refine gB_split (fun h1=>?_) (fun h1=>?_)
   ·rw [idxP_hit h1]
   ·rw [idxP_miss h1]
    refine Again.mk (k + 1) [0] ⟨h,rfl⟩ (YD h (Nat.lt_succ_self _)) ?_
    simp only [mvcgen_simp,method_specs_simp,seval,encGr,w1]
  ·simp only [decide_eq_false_iff_not,Zr,ZA] at h
   rw [Yv (by omega)]
   simp
def encPo (o : Gm.Po) : List V:=[.int .i64 o.g.room,.sl 9 (o.g.events.map encEv),.sl 9 (o.g.parked.map encEv),.sl 1 (o.added.map encI),.int .i64 o.code]
theorem encPo_ref1 (ok : Nat → Prop) (o : Gm.Po) : Refs ok (encPo o):=⟨trivial,of_eq_true (encEv_refs _ _),of_eq_true (encEv_refs _ _),of_eq_true (encI_refs _ _),trivial,trivial⟩
theorem c_l03Ill (c : Int) : Con P 119 [.int .i64 c] (.agg (encPo (Gm.illP c))):=by
 refine Con.weakR (r:=.agg [.int .i64 0,.nil,.nil,.nil,.int .i64 c]) ?_ (VLe.agg (VLes.same (VLes.cons (VLe.nil 9) (VLes.cons (VLe.nil 9) (VLes.cons (VLe.nil 1) (VLes.same VLes.nil)))))) (encPo_ref1 _ _)
 refine Con.of (n:=5) (rs:=[.cell 2 77]) (Is.fn Try.func119) rfl (Is.call Try.call119) Try.results119 Try.ntmps119 (by simp only [method_specs_simp]) ?_
 simp only [method_specs_simp,seval]
theorem n_l03Copy (g : Gr) (hg : GrOK g) : LCon P 139 [.agg (encGr g)] [] (.agg [.int .i64 g.room,.ar 0 0 g.events.length,.ar 1 0 g.parked.length]) [.arr true 9 (g.events.map encEv),.arr true 9 (g.parked.map encEv)]:=by
 have hx:=hg.1.1
 have hy:=hg.2.1
 refine LCon.ofS (n:=46) (rs:=[.cell 2 69]) (Is.fn Try.func139) rfl (Is.call Try.call139) Try.results139 Try.ntmps139 ?_
 refine SW.seq (CW.sound ?_)
 simp only [method_specs_simp,seval,encGr]
 refine SW.seq (CW.sound ?_)
 simp only [method_specs_simp,seval,encGr]
 refine SW.nilcell 2 1 9 rfl rfl (by decide) ?_
 refine SW.nilcell 2 2 9 rfl rfl (by decide) ?_
 refine SW.seq (SW.seq (CW.sound ?_))
 simp only [method_specs_simp,seval,encGr]
 refine SW.block ?_
 refine SW.while (A:=Nat) (fun k=>⟨pad 46 [.junk,.ptr 0 0,.ptr 1 0,.ptr 2 0,.int .i64 k],[.box true (encGr g),.box true [.int .i64 0,.nil,.nil],.box true [.int .i64 g.room,.ar 3 0 k,.ar 4 0 0],.arr true 9 ((g.events.take k).map encEv),.arr true 9 []],[]⟩) (fun k=>g.events.length - k) (fun k=>k ≤ g.events.length) 0 [0,1,2,3,4] (Ya _) ?_ ?_
 ·simp only [mvcgen_simp,method_specs_simp,seval,encGr]
 ·intro k hk
  have w1 : IntKind.i64.wrap ((k : Int) + 1) = ((k + 1 : Nat) : Int):=wadd1 k (by omega)
  have hml : ((g.events.take k).map encEv).length = k:=by rw [Zo,Yb]; omega
  refine CW.sound ?_
  cases hkl : decide ((k : Int) < (g.events.length : Int)) with
  | true =>
   simp only [decide_eq_true_eq,ZA] at hkl
   obtain ⟨x,hxk⟩ : ∃ x,g.events[k]? = some x:=⟨_,Zw hkl⟩
   have hk1 : decide ((k : Int) < (g.events.length : Int)) = true:=by simp; exact hkl
   have hce:=c_l02Copy (P:=P) x (hg.1.2 x (ZE hxk))
   have e1 : (g.events.take k).map encEv ++ [[V.int .i64 x.id,.int .i64 x.room,.int .i64 x.author,.int .i64 x.kind,.int .i64 x.key,.int .i64 x.n,.str x.text,.sl 1 (x.prev.map encI),.int .i64 x.time]] = (g.events.take (k + 1)).map encEv:=by rw [Yp,hxk,Zq]; rfl
   simp only [method_specs_simp,seval,encGr,hk1,Zp,hxk,hml]
   refine ⟨by kernel_rfl,by omega,by omega,clY.con hce ⟨encEv_ref1 _ x,trivial⟩ ?_⟩
   simp only [method_specs_simp,seval,encGr,encEv,hml]
   refine ⟨by omega,by omega,?_⟩
   rw [e1]
   refine Again.mk (k + 1) [0,1,2,6,4] hkl (by show g.events.length - (k + 1) < g.events.length - k; omega) ?_
   simp only [mvcgen_simp,method_specs_simp,seval,encGr,w1]
  | false =>
   simp only [decide_eq_false_iff_not,ZA] at hkl
   have hk2 : k = g.events.length:=by omega
   have hk1 : decide ((k : Int) < (g.events.length : Int)) = false:=by simp; omega
   simp only [method_specs_simp,seval,encGr,hk1]
   subst hk2
   rw [Yq]
   refine SW.seq (SW.seq (CW.sound ?_))
   simp only [method_specs_simp,seval,encGr]
   refine SW.block ?_
   refine SW.while (A:=Nat) (fun k=>⟨pad 46 [.junk,.ptr 0 0,.ptr 1 0,.ptr 2 0,.junk,.int .i64 k],[.box true (encGr g),.box true [.int .i64 0,.nil,.nil],.box true [.int .i64 g.room,.ar 3 0 g.events.length,.ar 4 0 k],.arr true 9 (g.events.map encEv),.arr true 9 ((g.parked.take k).map encEv)],[]⟩) (fun k=>g.parked.length - k) (fun k=>k ≤ g.parked.length) 0 [0,1,2,3,4] (Ya _) ?_ ?_
   ·simp only [mvcgen_simp,method_specs_simp,seval,encGr]
   ·intro k hk
    have w1 : IntKind.i64.wrap ((k : Int) + 1) = ((k + 1 : Nat) : Int):=wadd1 k (by omega)
    have hml : ((g.parked.take k).map encEv).length = k:=by rw [Zo,Yb]; omega
    refine CW.sound ?_
    cases hkl : decide ((k : Int) < (g.parked.length : Int)) with
    | true =>
     simp only [decide_eq_true_eq,ZA] at hkl
     obtain ⟨x,hxk⟩ : ∃ x,g.parked[k]? = some x:=⟨_,Zw hkl⟩
     have hk1 : decide ((k : Int) < (g.parked.length : Int)) = true:=by simp; exact hkl
     have hce:=c_l02Copy (P:=P) x (hg.2.2 x (ZE hxk))
     have e1 : (g.parked.take k).map encEv ++ [[V.int .i64 x.id,.int .i64 x.room,.int .i64 x.author,.int .i64 x.kind,.int .i64 x.key,.int .i64 x.n,.str x.text,.sl 1 (x.prev.map encI),.int .i64 x.time]] = (g.parked.take (k + 1)).map encEv:=by rw [Yp,hxk,Zq]; rfl
     simp only [method_specs_simp,seval,encGr,hk1,Zp,hxk,hml]
     refine ⟨by kernel_rfl,by omega,by omega,clY.con hce ⟨encEv_ref1 _ x,trivial⟩ ?_⟩
     simp only [method_specs_simp,seval,encGr,encEv,hml]
     refine ⟨by omega,by omega,?_⟩
     rw [e1]
     refine Again.mk (k + 1) [0,1,2,3,6] hkl (by show g.parked.length - (k + 1) < g.parked.length - k; omega) ?_
     simp only [mvcgen_simp,method_specs_simp,seval,encGr,w1]
    | false =>
     simp only [decide_eq_false_iff_not,ZA] at hkl
     have hk2 : k = g.parked.length:=by omega
     have hk1 : decide ((k : Int) < (g.parked.length : Int)) = false:=by simp; omega
     simp only [method_specs_simp,seval,encGr,hk1]
     subst hk2
     rw [Yq]
     refine CW.sound ?_
     simp only [method_specs_simp,seval,encGr]
     refine LResY.mk [3,4] ?_
     simp only [mvcgen_simp,method_specs_simp,seval,encGr]
end
theorem convs_r8y {m : List Ob} {a b c d e f g h : V} {l : List V} : convs m (r8 a b c d e f g h l) = r8 (conv m a) (conv m b) (conv m c) (conv m d) (conv m e) (conv m f) (conv m g) (conv m h) (convs m l):=rfl
theorem conv_junky {m : List Ob} : conv m .junk = .junk:=rfl
structure LsS where
 E : List Ev
 K : List Ev
 A : List Int
structure LsI (E0 K0 : List Ev) (A0 : List Int) (s : LsS) : Prop where
 go : Gm.goP s.K.length s.E s.K s.A = (E0,K0,A0)
 gi : Gm.GoI s.E s.K
 ok : (∀ y ∈ s.E,EvOK y) ∧ (∀ y ∈ s.K,EvOK y)
 al : s.A.length + s.K.length ≤ 21
section
variable {P : Program} [Is P]
theorem nn_l03Copy (g : Gr) (hg : GrOK g) : NCon P 139 [.agg (encGr g)] (.agg [.int .i64 g.room,.ar 0 0 g.events.length,.ar 1 0 g.parked.length]) [.arr true 9 (g.events.map encEv),.arr true 9 (g.parked.map encEv)]:=by
 refine LCon.new (n_l03Copy (P:=P) g hg) fun ob ho=>?_
 simp only [Zm,ZX,or_false] at ho
 rcases ho with rfl | rfl
 ·exact Refss_map fun a=>encEv_ref1 _ a
 ·exact Refss_map fun a=>encEv_ref1 _ a
theorem c_l03Copy (g : Gr) (hg : GrOK g) : Con P 139 [.agg (encGr g)] (.agg (encGr g)):=by
 have h:=(nn_l03Copy (P:=P) g hg).con (by simp only [method_specs_simp,ZJ,Zo,Zu])
 have e : convR [.arr true 9 (g.events.map encEv),.arr true 9 (g.parked.map encEv)] (.agg [.int .i64 g.room,.ar 0 0 g.events.length,.ar 1 0 g.parked.length]) = .agg (encGr g):=by simp only [method_specs_simp,ZJ,Zo,Zu,encGr]
 rwa [e] at h
theorem c_l03Add_there (g : Gr) (e : Ev) (hg : GrOK g) (he : EvOK e) (hw : Gm.Wl g) (h : Gm.thereP g e = true) : Con P 120 [.agg (encGr g),.agg (encEv e)] (.agg (encPo (Gm.illP 7))):=by
 have hx:=hg.1.1
 have hy:=hg.2.1
 have hAll:=c_l03All (P:=P) g.events e he (by omega)
 have hAt1:=c_l03At (P:=P) g.events e.id (by omega)
 have hAt2:=c_l03At (P:=P) g.parked e.id (by omega)
 have hIll:=c_l03Ill (P:=P) 7
 have a1:=atI_ge g.events e.id
 have a2:=atI_ge g.parked e.id
 refine Con.of (n:=136) (rs:=[.cell 4 77]) (Is.fn Try.func120) rfl (Is.call Try.call120) Try.results120 Try.ntmps120 (encPo_ref1 _ _) ?_
 simp only [method_specs_simp,seval,encGr,encEv,encPo]
 refine clY.con hAll (by simp only [method_specs_simp]) ?_
 simp only [method_specs_simp,seval,encGr,encEv,encPo]
 refine clY.con hAt1 (by simp only [method_specs_simp]) ?_
 cases q1 : Gm.hasId g.events e.id with
 | true =>
  rw [q1] at a1
  simp only [method_specs_simp,seval,encGr,encEv,encPo,a1]
  refine clY.con hIll ⟨trivial,trivial⟩ ?_
  simp only [method_specs_simp,seval,encGr,encEv,encPo]
 | false =>
  have q2 : Gm.hasId g.parked e.id = true:=by unfold Gm.thereP at h; rw [q1,Bool.false_or] at h; exact h
  rw [q1] at a1
  rw [q2] at a2
  simp only [method_specs_simp,seval,encGr,encEv,encPo,a1]
  refine clY.con hAt2 (by simp only [method_specs_simp]) ?_
  simp only [method_specs_simp,seval,encGr,encEv,encPo,a2]
  refine clY.con hIll ⟨trivial,trivial⟩ ?_
  simp only [method_specs_simp,seval,encGr,encEv,encPo]
theorem c_l03Add_full (g : Gr) (e : Ev) (hg : GrOK g) (he : EvOK e) (hw : Gm.Wl g) (h : Gm.thereP g e = false) (h2 : Gm.fullP g e = true) : Con P 120 [.agg (encGr g),.agg (encEv e)] (.agg (encPo (Gm.illP 9))):=by
 have hx:=hg.1.1
 have hy:=hg.2.1
 have hAll:=c_l03All (P:=P) g.events e he (by omega)
 have hAt1:=c_l03At (P:=P) g.events e.id (by omega)
 have hAt2:=c_l03At (P:=P) g.parked e.id (by omega)
 have hIll:=c_l03Ill (P:=P) 9
 have a1:=atI_ge g.events e.id
 have a2:=atI_ge g.parked e.id
 have hel:=hw.el
 have hkl:=hw.kl
 unfold Gm.thereP at h
 rw [ZW] at h
 rw [h.1] at a1
 rw [h.2] at a2
 unfold Gm.fullP at h2
 refine Con.of (n:=136) (rs:=[.cell 4 77]) (Is.fn Try.func120) rfl (Is.call Try.call120) Try.results120 Try.ntmps120 (encPo_ref1 _ _) ?_
 simp only [method_specs_simp,seval,encGr,encEv,encPo]
 refine clY.con hAll (by simp only [method_specs_simp]) ?_
 simp only [method_specs_simp,seval,encGr,encEv,encPo]
 refine clY.con hAt1 (by simp only [method_specs_simp]) ?_
 simp only [method_specs_simp,seval,encGr,encEv,encPo,a1]
 refine clY.con hAt2 (by simp only [method_specs_simp]) ?_
 cases q3 : g.events.length == 60 with
 | true =>
  have e60 : decide ((g.events.length : Int) ≥ 60) = true:=by
   have : g.events.length = 60:=by simpa using q3
   simp; omega
  simp only [method_specs_simp,seval,encGr,encEv,encPo,a2,e60]
  refine clY.con hIll ⟨trivial,trivial⟩ ?_
  simp only [method_specs_simp,seval,encGr,encEv,encPo]
 | false =>
  have e60 : decide ((g.events.length : Int) ≥ 60) = false:=by
   have : g.events.length ≠ 60:=by simpa using q3
   simp; omega
  rw [q3,Bool.false_or,Bool.and_eq_true] at h2
  have q4 : Gm.allIn g.events e = false:=by simpa using h2.1
  have e20 : decide ((g.parked.length : Int) ≥ 20) = true:=by
   have : g.parked.length = 20:=by simpa using h2.2
   simp; omega
  rw [q4]
  simp only [method_specs_simp,seval,encGr,encEv,encPo,a2,e60,e20]
  refine clY.con hIll ⟨trivial,trivial⟩ ?_
  simp only [method_specs_simp,seval,encGr,encEv,encPo]
theorem c_l03Add_parked (g : Gr) (e : Ev) (hg : GrOK g) (he : EvOK e) (hw : Gm.Wl g) (h : Gm.thereP g e = false) (h2 : Gm.fullP g e = false) (h3 : Gm.allIn g.events e = false) : Con P 120 [.agg (encGr g),.agg (encEv e)] (.agg (encPo (Gm.putP g e))):=by
 have hx:=hg.1.1
 have hy:=hg.2.1
 have hAll:=c_l03All (P:=P) g.events e he (by omega)
 have hAt1:=c_l03At (P:=P) g.events e.id (by omega)
 have hAt2:=c_l03At (P:=P) g.parked e.id (by omega)
 have a1:=atI_ge g.events e.id
 have a2:=atI_ge g.parked e.id
 have hel:=hw.el
 have hkl:=hw.kl
 have hCo:=c_l03Copy (P:=P) g hg
 have hPu:=c_l03Put (P:=P) g.parked e he (by omega)
 rw [Gm_putP_parked h h2 h3]
 unfold Gm.thereP at h
 rw [ZW] at h
 rw [h.1] at a1
 rw [h.2] at a2
 rw [h3] at hAll
 unfold Gm.fullP at h2
 rw [h3,ZW] at h2
 have e60 : decide ((g.events.length : Int) ≥ 60) = false:=by
  have : g.events.length ≠ 60:=by simpa using h2.1
  simp; omega
 have e20 : decide ((g.parked.length : Int) ≥ 20) = false:=by
  have : g.parked.length ≠ 20:=by simpa using h2.2
  simp; omega
 refine Con.weakR (r:=.agg [.int .i64 g.room,.sl 9 (g.events.map encEv),.sl 9 ((Gm.insE g.parked e).map encEv),.nil,.int .i64 0]) ?_ (VLe.agg (VLes.same (VLes.same (VLes.same (VLes.cons (VLe.nil 1) (VLes.same VLes.nil)))))) (encPo_ref1 _ _)
 refine Con.of (n:=136) (rs:=[.cell 4 77]) (Is.fn Try.func120) rfl (Is.call Try.call120) Try.results120 Try.ntmps120 (by simp only [method_specs_simp]) ?_
 simp only [method_specs_simp,seval,encGr,encEv,encPo]
 refine clY.con hAll (by simp only [method_specs_simp]) ?_
 simp only [method_specs_simp,seval,encGr,encEv,encPo]
 refine clY.con hAt1 (by simp only [method_specs_simp]) ?_
 simp only [method_specs_simp,seval,encGr,encEv,encPo,a1]
 refine clY.con hAt2 (by simp only [method_specs_simp]) ?_
 simp only [method_specs_simp,seval,encGr,encEv,encPo,a2,e60,e20]
 refine clY.con hCo (by simp only [method_specs_simp]) ?_
 simp only [method_specs_simp,seval,encGr,encEv,encPo]
 refine ⟨by kernel_rfl,?_⟩
 refine clY.con hPu (by simp only [method_specs_simp]) ?_
 simp only [method_specs_simp,seval,encGr,encEv,encPo]
theorem c_l03Add_whole (g : Gr) (e : Ev) (hg : GrOK g) (he : EvOK e) (hw : Gm.Wl g) (h : Gm.thereP g e = false) (h2 : Gm.fullP g e = false) (h3 : Gm.allIn g.events e = true) : Con P 120 [.agg (encGr g),.agg (encEv e)] (.agg (encPo (Gm.putP g e))):=by
 have hx:=hg.1.1
 have hy:=hg.2.1
 have hAll:=c_l03All (P:=P) g.events e he (by omega)
 have hAt1:=c_l03At (P:=P) g.events e.id (by omega)
 have hAt2:=c_l03At (P:=P) g.parked e.id (by omega)
 have a1:=atI_ge g.events e.id
 have a2:=atI_ge g.parked e.id
 have hel:=hw.el
 have hkl:=hw.kl
 have hCo:=c_l03Copy (P:=P) g hg
 have hPu:=c_l03Put (P:=P) g.events e he (by omega)
 obtain ⟨E1,K1,A1,hgo⟩ : ∃ E K A,Gm.goP g.parked.length (Gm.insE g.events e) g.parked [e.id] = (E,K,A):=⟨_,_,_,rfl⟩
 rw [Gm_putP_whole h h2 h3 hgo]
 have h0:=h
 unfold Gm.thereP at h
 rw [ZW] at h
 rw [h.1] at a1
 rw [h.2] at a2
 rw [h3] at hAll
 unfold Gm.fullP at h2
 rw [h3,ZW] at h2
 have e60 : decide ((g.events.length : Int) ≥ 60) = false:=by
  have : g.events.length ≠ 60:=by simpa using h2.1
  simp; omega
 have hlt60 : g.events.length < 60:=by
  have : g.events.length ≠ 60:=by simpa using h2.1
  omega
 have hi0 : Gm.GoI (Gm.insE g.events e) g.parked:=by
  refine ⟨hw.se.ins h.1,hw.sk,fun y hy=>?_,by rw [Gm.insE_len]; omega⟩
  rcases Gm.insE_mem.1 hy with rfl | hy
  ·exact h.2
  ·exact hw.dis y hy
 have hok0 : (∀ y ∈ Gm.insE g.events e,EvOK y) ∧ (∀ y ∈ g.parked,EvOK y):=⟨fun y hy=>by
  rcases Gm.insE_mem.1 hy with rfl | hy
  ·exact he
  ·exact hg.1.2 y hy,hg.2.2⟩
 have hg1 : GrOK ⟨g.room,Gm.insE g.events e,g.parked⟩:=⟨⟨by show (Gm.insE g.events e).length * 96 ≤ _; rw [Gm.insE_len]; omega,hok0.1⟩,hg.2⟩
 have hFr:=c_l03Free (P:=P) ⟨g.room,Gm.insE g.events e,g.parked⟩ hg1
 refine Con.of (n:=136) (rs:=[.cell 4 77]) (Is.fn Try.func120) rfl (Is.call Try.call120) Try.results120 Try.ntmps120 (encPo_ref1 _ _) ?_
 simp only [method_specs_simp,seval,encGr,encEv,encPo]
 refine clY.con hAll (by simp only [method_specs_simp]) ?_
 simp only [method_specs_simp,seval,encGr,encEv,encPo]
 refine clY.con hAt1 (by simp only [method_specs_simp]) ?_
 simp only [method_specs_simp,seval,encGr,encEv,encPo,a1]
 refine clY.con hAt2 (by simp only [method_specs_simp]) ?_
 simp only [method_specs_simp,seval,encGr,encEv,encPo,a2,e60]
 refine clY.con hCo (by simp only [method_specs_simp]) ?_
 simp only [method_specs_simp,seval,encGr,encEv,encPo]
 refine ⟨by kernel_rfl,?_⟩
 refine clY.con hPu (by simp only [method_specs_simp]) ?_
 simp only [method_specs_simp,seval,encGr,encEv,encPo]
 refine clY.con hFr (by simp only [method_specs_simp]) ?_
 simp only [method_specs_simp,seval,encGr,encEv,encPo]
 refine SW.while (A:=LsS) (fun s=>⟨pad 136 [.junk,.junk,.junk,.junk,.ptr 0 0,.junk,.ptr 1 0,.ptr 1 0,.int .i64 (idxP (Gm.allIn s.E) s.K)],[.box true [.int .i64 0,.nil,.nil,.nil,.int .i64 0],.box true [.int .i64 g.room,.sl 9 (s.E.map encEv),.sl 9 (s.K.map encEv),.ar 2 0 s.A.length,.int .i64 0],.arr true 1 (s.A.map encI)],[]⟩) (fun s=>s.K.length) (LsI E1 K1 A1) ⟨Gm.insE g.events e,g.parked,[e.id]⟩ [2,3,4] ⟨hgo,hi0,hok0,by show 1 + g.parked.length ≤ 21; omega⟩ ?_ ?_
 ·simp only [mvcgen_simp,method_specs_simp,seval,encGr,encEv,encPo,encI]
 ·rintro ⟨E,K,A⟩ ⟨hgo,hgi,hok,hal⟩
  simp only at hgo hgi hok hal
  have hgel:=hgi.el
  refine SW.seq (CW.sound ?_)
  simp only [method_specs_simp,seval,encGr,encEv,encPo,idxP_ge]
  refine gB_split (fun c7=>?_) (fun c7=>?_)
  ·obtain ⟨y,hy,hgo3⟩:=goP_some (A:=A) c7
   rw [hgo3] at hgo
   obtain ⟨i,hi⟩ : ∃ i,K.findIdx (Gm.allIn E) = i:=⟨_,rfl⟩
   have hix : idxP (Gm.allIn E) K = ((i : Nat) : Int):=by unfold idxP; rw [c7,hi]; rfl
   rw [hi] at hy hgo
   rw [hix]
   have hil:=(Zf.1 hy).1
   have hkl2 : K.length ≤ 21:=by omega
   have hyE:=hok.2 y (ZE hy)
   refine SW.seq (SW.block ?_)
   refine SW.seq (CW.sound ?_)
   simp only [method_specs_simp,seval,encGr,encEv,encPo,Zp,hy,encEv]
   refine ⟨by omega,by omega,?_⟩
   refine SW.seq (CW.sound ?_)
   simp only [method_specs_simp,seval,encGr,encEv,encPo]
   refine ⟨by omega,by omega,fun z hz=>lenEv (ZH hz),fun z hz=>?_,by simp; omega,by simp; omega,?_⟩
   ·rw [← ZL] at hz
    rcases flatEv hz with ⟨_,_,rfl⟩ | ⟨_,rfl⟩ | ⟨_,rfl⟩ <;> rfl
   have w1 : IntKind.i64.wrap ((i : Int) + 1) = ((i + 1 : Nat) : Int):=wadd1 i (by omega)
   refine SW.seq (CW.sound ?_)
   have tn : ((i : Int) + 1).toNat = i + 1:=by omega
   simp only [method_specs_simp,seval,encGr,encEv,encPo,w1,Int.toNat_natCast,tn]
   refine ⟨by omega,by omega,by omega,fun z hz=>lenEv (ZI hz),fun z hz=>?_,by simp; omega,by simp; omega,?_⟩
   ·rw [← ZM] at hz
    rcases flatEv hz with ⟨_,_,rfl⟩ | ⟨_,rfl⟩ | ⟨_,rfl⟩ <;> rfl
   have hke : (K.map encEv).take i ++ (K.map encEv).drop (i + 1) = (K.eraseIdx i).map encEv:=by
    rw [Ys,Zq,ZL,ZM]
   have hkn : ((K.map encEv).take i).length + ((K.map encEv).drop (i + 1)).length = (K.eraseIdx i).length:=by
    rw [ZU hil,Yb,Yh,Zo]; omega
   rw [hke,hkn]
   obtain ⟨K',hK'⟩ : ∃ K',K' = K.eraseIdx i:=⟨_,rfl⟩
   rw [← hK'] at hgo ⊢
   refine SW.freeze [6] ?_
   simp only [mvcgen_simp,method_specs_simp,seval,encGr,encEv,encPo,convs_r8y,conv_junky]
   refine SW.cvb 1 (cs':=[.int .i64 g.room,.sl 9 (E.map encEv),.sl 9 (K'.map encEv),.ar 2 0 A.length,.int .i64 0]) rfl ?_ ?_
   ·have ht : ZK K'.length (K'.map encEv) = K'.map encEv:=ZJ (by simp)
    simp [conv,ht]
   refine SW.wk [0,1,2,3] (st':=⟨pad 136 [.junk,.junk,.junk,.junk,.ptr 0 0,.junk,.ptr 1 0,.ptr 1 0,.junk,.ptr 3 0],[.box true [.int .i64 0,.nil,.nil,.nil,.int .i64 0],.box true [.int .i64 g.room,.sl 9 (E.map encEv),.sl 9 (K'.map encEv),.ar 2 0 A.length,.int .i64 0],.arr true 1 (A.map encI),.box true (encEv y)],[]⟩) ?_ ?_
   ·simp only [mvcgen_simp,method_specs_simp,seval,encGr,encEv,encPo]
   have hK'l : K'.length + 1 = K.length:=by rw [hK',ZU hil]; omega
   have hst:=hgi.step hy
   rw [← hK'] at hst
   have hok' : ∀ z ∈ K',EvOK z:=fun z hz=>hok.2 z (Yw (hK' ▸ hz))
   unfold stepP at hgo
   refine SW.seq (CW.sound ?_)
   cases c60 : decide ((E.length : Int) < 60) with
   | true =>
    have hlt : E.length < 60:=by simp only [decide_eq_true_eq] at c60; omega
    rw [if_pos hlt] at hgo
    have hPu2:=c_l03Put (P:=P) E y hyE (by omega)
    have hg2 : GrOK ⟨g.room,Gm.insE E y,K'⟩:=⟨⟨by show (Gm.insE E y).length * 96 ≤ _; rw [Gm.insE_len]; omega,fun z hz=>by
     rcases Gm.insE_mem.1 hz with rfl | hz
     ·exact hyE
     ·exact hok.1 z hz⟩,⟨by show K'.length * 96 ≤ _; omega,hok'⟩⟩
    have hFr2:=c_l03Free (P:=P) ⟨g.room,Gm.insE E y,K'⟩ hg2
    simp only [method_specs_simp,seval,encGr,encEv,encPo,c60,encEv]
    refine SW.cond (b:=true) rfl (fun _=>?_) (fun h=>by cases h)
    refine CW.sound ?_
    simp only [method_specs_simp,seval,encGr,encEv,encPo,encEv]
    refine ⟨by kernel_rfl,?_⟩
    refine clY.con hPu2 (by simp only [method_specs_simp,encEv]) ?_
    simp only [method_specs_simp,seval,encGr,encEv,encPo,encEv,encI]
    refine ⟨by omega,by omega,?_⟩
    refine CW.sound ?_
    simp only [method_specs_simp,seval,encGr,encEv,encPo]
    refine clY.con hFr2 (by simp only [method_specs_simp,encGr]) ?_
    simp only [method_specs_simp,seval,encGr,encEv,encPo]
    have ea : A.map encI ++ [[V.int .i64 y.id]] = (A ++ [y.id]).map encI:=by rw [Zq]; rfl
    have el : A.length + 1 = (A ++ [y.id]).length:=by rw [Zj]; rfl
    rw [ea,el]
    refine Again.mk ⟨Gm.insE E y,K',A ++ [y.id]⟩ [0,1,5] ⟨hgo,hst.2.2 hlt,⟨hg2.1.2,hok'⟩,by show (A ++ [y.id]).length + K'.length ≤ 21; rw [← el]; omega⟩ (by show K'.length < K.length; omega) ?_
    simp only [mvcgen_simp,method_specs_simp,seval,encGr,encEv,encPo]
   | false =>
    have hlt : ¬ E.length < 60:=by simp only [decide_eq_false_iff_not] at c60; omega
    rw [if_neg hlt] at hgo
    have hg2 : GrOK ⟨g.room,E,K'⟩:=⟨⟨by show E.length * 96 ≤ _; omega,hok.1⟩,⟨by show K'.length * 96 ≤ _; omega,hok'⟩⟩
    have hFr2:=c_l03Free (P:=P) ⟨g.room,E,K'⟩ hg2
    simp only [method_specs_simp,seval,encGr,encEv,encPo,c60]
    refine SW.cond (b:=false) rfl (fun h=>by cases h) (fun _=>?_)
    refine SW.skip ?_
    show Go.Pm.SW P _ _ _
    refine CW.sound ?_
    simp only [method_specs_simp,seval,encGr,encEv,encPo]
    refine clY.con hFr2 (by simp only [method_specs_simp,encGr]) ?_
    simp only [method_specs_simp,seval,encGr,encEv,encPo]
    refine Again.mk ⟨E,K',A⟩ [0,1,2] ⟨hgo,hst.2.1,⟨hok.1,hok'⟩,by show A.length + K'.length ≤ 21; omega⟩ (by show K'.length < K.length; omega) ?_
    simp only [mvcgen_simp,method_specs_simp,seval,encGr,encEv,encPo]
  ·rw [goP_none c7] at hgo
   injection hgo with q1 q2
   injection q2 with q2 q3
   rw [q1,q2,q3]
   trivial
theorem c_l03Add (g : Gr) (e : Ev) (hg : GrOK g) (he : EvOK e) (hw : Gm.Wl g) : Con P 120 [.agg (encGr g),.agg (encEv e)] (.agg (encPo (Gm.putP g e))):=by
 cases h1 : Gm.thereP g e with
 | true =>
  have hpp : Gm.putP g e = Gm.illP 7:=by unfold Gm.putP; rw [h1]; rfl
  rw [hpp]; exact c_l03Add_there g e hg he hw h1
 | false =>
  cases h2 : Gm.fullP g e with
  | true =>
   have hpp : Gm.putP g e = Gm.illP 9:=by unfold Gm.putP; rw [h1,h2]; rfl
   rw [hpp]; exact c_l03Add_full g e hg he hw h1 h2
  | false =>
   cases h3 : Gm.allIn g.events e with
   | false=>exact c_l03Add_parked g e hg he hw h1 h2 h3
   | true=>exact c_l03Add_whole g e hg he hw h1 h2 h3
theorem c_sGraphPut (g : Gr) (e : Ev) (hg : GrOK g) (he : EvOK e) : Con P 42 [.agg (encGr g),.agg (encEv e)] (.agg (encPo (gpP g e))):=by
 have h1:=c_sGraphRight (P:=P) g hg
 have h2:=c_sEventRight (P:=P) e he
 have hIll:=c_l03Ill (P:=P) 1
 cases r1 : Gm.grRight g with
 | false =>
  rw [r1] at h1
  have hpp : gpP g e = Gm.illP 1:=by unfold gpP; rw [r1]; rfl
  rw [hpp]
  refine Con.of (n:=24) (rs:=[.cell 4 77]) (Is.fn Try.func42) rfl (Is.call Try.call42) Try.results42 Try.ntmps42 (encPo_ref1 _ _) ?_
  simp only [method_specs_simp,seval,encGr,encEv,encPo]
  refine clY.con h1 (by simp only [method_specs_simp,encGr]) ?_
  simp only [method_specs_simp,seval,encGr,encEv,encPo]
  refine clY.con hIll ⟨trivial,trivial⟩ ?_
  simp only [method_specs_simp,seval,encGr,encEv,encPo]
 | true =>
  rw [r1] at h1
  cases r2 : Gm.evRight e with
  | false =>
   rw [r2] at h2
   have hpp : gpP g e = Gm.illP 1:=by unfold gpP; rw [r1,r2]; rfl
   rw [hpp]
   refine Con.of (n:=24) (rs:=[.cell 4 77]) (Is.fn Try.func42) rfl (Is.call Try.call42) Try.results42 Try.ntmps42 (encPo_ref1 _ _) ?_
   simp only [method_specs_simp,seval,encGr,encEv,encPo]
   refine clY.con h1 (by simp only [method_specs_simp,encGr]) ?_
   simp only [method_specs_simp,seval,encGr,encEv,encPo]
   refine clY.con h2 (by simp only [method_specs_simp,encEv]) ?_
   simp only [method_specs_simp,seval,encGr,encEv,encPo]
   refine clY.con hIll ⟨trivial,trivial⟩ ?_
   simp only [method_specs_simp,seval,encGr,encEv,encPo]
  | true =>
   rw [r2] at h2
   cases r3 : e.room == g.room with
   | false =>
    have hpp : gpP g e = Gm.illP 1:=by unfold gpP; rw [r1,r2,r3]; rfl
    have r4 : (e.room != g.room) = true:=by unfold bne; rw [r3]; rfl
    rw [hpp]
    refine Con.of (n:=24) (rs:=[.cell 4 77]) (Is.fn Try.func42) rfl (Is.call Try.call42) Try.results42 Try.ntmps42 (encPo_ref1 _ _) ?_
    simp only [method_specs_simp,seval,encGr,encEv,encPo]
    refine clY.con h1 (by simp only [method_specs_simp,encGr]) ?_
    simp only [method_specs_simp,seval,encGr,encEv,encPo]
    refine clY.con h2 (by simp only [method_specs_simp,encEv]) ?_
    simp only [method_specs_simp,seval,encGr,encEv,encPo,r4]
    refine clY.con hIll ⟨trivial,trivial⟩ ?_
    simp only [method_specs_simp,seval,encGr,encEv,encPo]
   | true =>
    have hpp : gpP g e = Gm.putP g e:=by unfold gpP; rw [r1,r2,r3]; rfl
    have r4 : (e.room != g.room) = false:=by unfold bne; rw [r3]; rfl
    have hAd:=c_l03Add (P:=P) g e hg he (Gm.right_wl r1)
    rw [hpp]
    refine Con.of (n:=24) (rs:=[.cell 4 77]) (Is.fn Try.func42) rfl (Is.call Try.call42) Try.results42 Try.ntmps42 (encPo_ref1 _ _) ?_
    simp only [method_specs_simp,seval,encGr,encEv,encPo]
    refine clY.con h1 (by simp only [method_specs_simp,encGr]) ?_
    simp only [method_specs_simp,seval,encGr,encEv,encPo]
    refine clY.con h2 (by simp only [method_specs_simp,encEv]) ?_
    simp only [method_specs_simp,seval,encGr,encEv,encPo,r4]
    refine clY.con hAd (by simp only [method_specs_simp,encGr,encEv]) ?_
    simp only [method_specs_simp,seval,encGr,encEv,encPo]
end
def mPo (k : Int) (o : Gm.Po) : Gm.Po:=⟨mGr k o.g,mInts (k + (wM o.g.events + wM o.g.parked)) o.added.length,o.code⟩
def wPo (o : Gm.Po) : Int:=wM o.g.events + wM o.g.parked + o.added.length
theorem mPo_len (k : Int) (o : Gm.Po) : (obP (mPo k o)).length = (obP o).length:=by rw [obP_len,obP_len]; simp only [mPo,mGr,mEvs_len]
theorem obG_b (g : Gr) : obG g = obGb 0 g:=by unfold obG obGb; rw [obE_b,ZS]
section
variable {P : Program} [Is P]
theorem c_heldGraph (g : Gr) (k : Int) (h0 : 0 ≤ k) (h1 : k < 2 ^ 57) (hg : GrOK g) (hw : k + (wM g.events + wM g.parked) < 2 ^ 57) : Con P 124 [.agg (encGr (mGr k g)),.int .i64 k] (.int .i64 (k + (wM g.events + wM g.parked))):=by
 have n1:=wM_nn g.events
 have n2:=wM_nn g.parked
 have e1:=c_heldEventS (P:=P) g.events k h0 (by omega) hg.1 (by omega)
 have e2:=c_heldEventS (P:=P) g.parked (k + wM g.events) (by omega) (by omega) hg.2 (by omega)
 have k1 : decide (k + wM g.events < 0) = false:=decide_eq_false (by omega)
 have k2 : decide (k + wM g.events + wM g.parked < 0) = false:=decide_eq_false (by omega)
 rw [← Int.add_assoc]
 refine Con.of (n:=18) (rs:=[.tmp 4]) (Is.fn Try.func124) rfl (Is.call Try.call124) Try.results124 Try.ntmps124 trivial ?_
 simp only [method_specs_simp,seval,encGr,mGr]
 refine clY.con e1 ⟨of_eq_true (encEv_refs _ _),trivial,trivial⟩ ?_
 simp only [method_specs_simp,seval,encGr,mGr,k1]
 refine clY.con e2 ⟨of_eq_true (encEv_refs _ _),trivial,trivial⟩ ?_
 simp only [method_specs_simp,seval,encGr,mGr,k2]
theorem c_heldGraphOut (o : Gm.Po) (k : Int) (h0 : 0 ≤ k) (h1 : k < 2 ^ 56) (hg : GrOK o.g) (ha : o.added.length < 2 ^ 56) (hw : k + (wM o.g.events + wM o.g.parked) < 2 ^ 57) : Con P 50 [.agg (encPo (mPo k o)),.int .i64 k] (.int .i64 (k + wPo o)):=by
 have n1:=wM_nn o.g.events
 have n2:=wM_nn o.g.parked
 have e1:=c_heldGraph (P:=P) o.g k h0 (by omega) hg hw
 have e2:=c_heldInt64S (P:=P) (k + (wM o.g.events + wM o.g.parked)) o.added.length (by omega) (by omega) (by omega)
 have k1 : decide (k + (wM o.g.events + wM o.g.parked) < 0) = false:=decide_eq_false (by omega)
 have k2 : decide (k + (wM o.g.events + wM o.g.parked) + (o.added.length : Int) < 0) = false:=decide_eq_false (by omega)
 rw [show k + wPo o = k + (wM o.g.events + wM o.g.parked) + (o.added.length : Int) by unfold wPo; omega]
 refine Con.of (n:=18) (rs:=[.tmp 4]) (Is.fn Try.func50) rfl (Is.call Try.call50) Try.results50 Try.ntmps50 trivial ?_
 simp only [method_specs_simp,seval,encPo,mPo,mGr,encGr]
 refine clY.con e1 (by simp only [method_specs_simp,encGr,mGr]) ?_
 simp only [method_specs_simp,seval,encPo,mPo,mGr,encGr,k1]
 refine clY.con e2 ⟨of_eq_true (encI_refs _ _),trivial,trivial⟩ ?_
 simp only [method_specs_simp,seval,encPo,mPo,mGr,encGr,k2]
theorem c_eqGraphOut (o : Gm.Po) (hg : GrOK o.g) (ha : o.added.length < 2 ^ 56) : Con P 45 [.agg (encPo o),.agg (encPo o)] (.bool true):=by
 have e1:=c_eqGraph (P:=P) o.g hg
 have e2:=c_eqInt64S (P:=P) o.added (by omega)
 refine Con.of (n:=22) (rs:=[.tmp 4]) (Is.fn Try.func45) rfl (Is.call Try.call45) Try.results45 Try.ntmps45 trivial ?_
 simp only [method_specs_simp,seval,encPo,encGr]
 refine clY.con e1 (by simp only [method_specs_simp,encGr]) ?_
 simp only [method_specs_simp,seval,encPo,encGr]
 refine clY.con e2 ⟨of_eq_true (encI_refs _ _),of_eq_true (encI_refs _ _),trivial⟩ ?_
 simp only [method_specs_simp,seval,encPo,encGr,bne_self_eq_false]
theorem n_markGraphOut (o : Gm.Po) (k : Int) (h0 : 0 ≤ k) (h1 : k < 2 ^ 56) (hg : GrOK o.g) (ha : o.added.length < 2 ^ 56) (hw : k + (wM o.g.events + wM o.g.parked) < 2 ^ 57) : LCon P 49 [.agg (poV o),.int .i64 k] (obP o) (.int .i64 (k + wPo o)) (obP (mPo k o)):=by
 have n1:=wM_nn o.g.events
 have n2:=wM_nn o.g.parked
 have e1:=n_markGraph (P:=P) o.g k h0 (by omega) hg hw
 have e2:=n_markInt64S (P:=P) o.added (k + (wM o.g.events + wM o.g.parked)) (by omega) (by omega) (by omega)
 have q1 : ∀ ob : Ob,(obP o ++ [ob])[(obP o).length]? = some ob:=fun ob=>YG
 have q2 : ∀ (lv : Bool) (cs : List V),boxAt (obP o ++ [Ob.box lv cs]) (obP o).length = some cs:=fun lv cs=>by unfold boxAt; rw [q1]
 rw [show k + wPo o = k + (wM o.g.events + wM o.g.parked) + (o.added.length : Int) by unfold wPo; omega]
 refine LCon.of (n:=14) (rs:=[.tmp 4]) (Is.fn Try.func49) rfl (Is.call Try.call49) Try.results49 Try.ntmps49 ?_
 simp only [method_specs_simp,seval,poV]
 simp only [method_specs_simp,seval,poV,q1,q2]
 obtain ⟨bx,hbx⟩ : ∃ bx,bx = Ob.box true [V.int IntKind.i64 o.g.room,V.ar 0 0 o.g.events.length,V.ar (o.g.events.length + 1) 0 o.g.parked.length,V.ar (o.g.events.length + 1 + (o.g.parked.length + 1)) 0 o.added.length,V.int IntKind.i64 o.code]:=⟨_,rfl⟩
 rw [← hbx]
 have hv : V.agg [V.int IntKind.i64 o.g.room,V.ar 0 0 o.g.events.length,V.ar (o.g.events.length + 1) 0 o.g.parked.length] = .agg (grV 0 o.g):=by simp [grV]
 have hm : obP o ++ [bx] = [] ++ (obGb 0 o.g ++ [.arr true 1 (o.added.map encI),bx]):=by
  unfold obP; rw [obG_b]; simp
 rw [hv,hm]
 refine clY.segG (A:=[]) e1 (mGr_len k o.g) trivial ⟨trivial,trivial⟩ (fun m=>by simp only [convs,conv]) ?_
 have hm2 : [] ++ (obGb 0 (mGr k o.g) ++ [.arr true 1 (o.added.map encI),bx]) = (obGb 0 (mGr k o.g) ++ [.arr true 1 (o.added.map encI)]) ++ [bx]:=by simp
 obtain ⟨M2,hM2⟩ : ∃ M2,M2 = obGb 0 (mGr k o.g) ++ [Ob.arr true 1 (o.added.map encI)]:=⟨_,rfl⟩
 have hl2 : M2.length = (obP o).length:=by rw [hM2,obP_len,Zj,obGb_len]; simp only [mGr,mEvs_len]; rfl
 have hgl : (obGb 0 (mGr k o.g)).length = o.g.events.length + 1 + (o.g.parked.length + 1):=by rw [obGb_len]; simp only [mGr,mEvs_len]
 have q3 : ∀ ob : Ob,(M2 ++ [ob])[(obP o).length]? = some ob:=fun ob=>by rw [← hl2]; exact YG
 have q4 : ∀ (lv : Bool) (cs : List V),boxAt (M2 ++ [Ob.box lv cs]) (obP o).length = some cs:=fun lv cs=>by unfold boxAt; rw [q3]
 rw [ZN,hm2,← hM2,hbx]
 simp only [method_specs_simp,seval,poV,q3,q4]
 refine clY.at1 (q:=o.g.events.length + 1 + (o.g.parked.length + 1)) e2 ?_ (pure_ints _ _) (pure_ints _ _) trivial ⟨trivial,trivial⟩ (by simp only [convs,conv]) ?_
 ·rw [hM2,Zb,Ze (by omega),hgl,Zk]; rfl
 have hm3 : (M2 ++ [bx]).set (o.g.events.length + 1 + (o.g.parked.length + 1)) (.arr true 1 ((mInts (k + (wM o.g.events + wM o.g.parked)) o.added.length).map encI)) = obP (mPo k o) ++ [bx]:=by
  rw [hM2,Zb,List.set_append_right _ _ (by omega),hgl,Zk]
  unfold obP mPo
  rw [obG_b]; simp
 rw [← hbx,hm3,hbx]
 simp only [method_specs_simp,seval,poV]
 exact LResY.head rfl (mPo_len k o) (fun ob ho=>lies_po ob ho) trivial
end
def pvV (b : Nat) (o : Gm.Po) : List V:=[.int .i64 o.g.room,.ar b 0 o.g.events.length,.ar (b + (o.g.events.length + 1)) 0 o.g.parked.length,.ar (b + (o.g.events.length + 1 + (o.g.parked.length + 1))) 0 o.added.length,.int .i64 o.code]
theorem poV_ren (b : Nat) (o : Gm.Po) : V.ren (fun q=>b + q) (.agg (poV o)) = .agg (pvV b o):=rfl
theorem pvV_m (b : Nat) (k : Int) (o : Gm.Po) : pvV b (mPo k o) = pvV b o:=by unfold pvV mPo mGr; simp only [mEvs_len,mInts_len]
def LiesP (m : List Ob) (b : Nat) (o : Gm.Po) : Prop:=∀ i ob,(obPb b o)[i]? = some ob → m[b + i]? = some ob
theorem LiesP.dcv {m : List Ob} {b : Nat} {o : Gm.Po} (h : LiesP m b o) : Go.Pm.dcv 3 m (.agg (pvV b o)) = .agg (encPo o):=by
 have hg : LiesG m b o.g:=fun i ob hi=>h i ob (by
  unfold obPb
  rw [Zg (Zf.1 hi).1]; exact hi)
 have h3:=hg.dcv
 have h4:=h _ _ (obPb_2 b o)
 have h5 : Go.Pm.dcv 2 m (.ar (b + (o.g.events.length + 1 + (o.g.parked.length + 1))) 0 o.added.length) = .sl 1 (o.added.map encI):=by
  simp only [Go.Pm.dcv,h4,ZZ]
  rw [ZJ (by simp)]
  congr 1
  rw [Ye]
  exact ZQ fun e _=>rfl
 have h6 : [Go.Pm.dcv 2 m (.int .i64 o.g.room),Go.Pm.dcv 2 m (.ar b 0 o.g.events.length),Go.Pm.dcv 2 m (.ar (b + (o.g.events.length + 1)) 0 o.g.parked.length)] = encGr o.g:=by
  have h7 : V.agg [Go.Pm.dcv 2 m (.int .i64 o.g.room),Go.Pm.dcv 2 m (.ar b 0 o.g.events.length),Go.Pm.dcv 2 m (.ar (b + (o.g.events.length + 1)) 0 o.g.parked.length)] = .agg (encGr o.g):=h3
  injection h7
 unfold encGr at h6
 injection h6 with h7 h8
 injection h8 with h8 h9
 injection h9 with h9 h10
 show V.agg [Go.Pm.dcv 2 m (.int .i64 o.g.room),Go.Pm.dcv 2 m (.ar b 0 o.g.events.length),Go.Pm.dcv 2 m (.ar (b + (o.g.events.length + 1)) 0 o.g.parked.length),Go.Pm.dcv 2 m (.ar (b + (o.g.events.length + 1 + (o.g.parked.length + 1))) 0 o.added.length),Go.Pm.dcv 2 m (.int .i64 o.code)] = _
 rw [h8,h9,h5]; rfl
theorem LiesP.mk {A C m : List Ob} {b : Nat} {o : Gm.Po} (h : A.length = b) (em : m = A ++ (obPb b o ++ C)) : LiesP m b o:=fun i ob hi=>by
 subst em; subst h
 rw [Ze (by omega),ZV,Zg (Zf.1 hi).1]
 exact hi
theorem dcv_encPo (m : List Ob) (o : Gm.Po) : Go.Pm.dcv 3 m (.agg (encPo o)) = .agg (encPo o):=rfl
theorem obP_alive (o : Gm.Po) : ∀ ob ∈ obP o,ob.alive = true:=fun ob ho=>by
 rcases Zi.1 ho with ho | ho
 ·exact obG_alive _ ob ho
 ·rw [Zt] at ho
  subst ho; rfl
theorem dcv_ev3 {m : List Ob} {q : Nat} {e : Ev} (h : m[q]? = some (obI e)) : Go.Pm.dcv 3 m (.agg (rowEv q e)) = .agg (encEv e):=by
 have h5 : Go.Pm.dcv 2 m (.ar q 0 e.prev.length) = .sl 1 (e.prev.map encI):=by
  simp only [Go.Pm.dcv,h,obI,ZZ]
  rw [ZJ (by simp)]
  congr 1
  rw [Ye]
  exact ZQ fun e _=>rfl
 show V.agg [Go.Pm.dcv 2 m (.int .i64 e.id),Go.Pm.dcv 2 m (.int .i64 e.room),Go.Pm.dcv 2 m (.int .i64 e.author),Go.Pm.dcv 2 m (.int .i64 e.kind),Go.Pm.dcv 2 m (.int .i64 e.key),Go.Pm.dcv 2 m (.int .i64 e.n),Go.Pm.dcv 2 m (.str e.text),Go.Pm.dcv 2 m (.ar q 0 e.prev.length),Go.Pm.dcv 2 m (.int .i64 e.time)] = _
 rw [h5]; rfl
theorem clY.segP {P : Program} {f : FuncId} {A L X m : List Ob} {q : Nat} {rest : List V} {o o' : Gm.Po} {r : V} {K KL : V → List Ob → Prop} (hm : m = A ++ (X ++ L)) (hA : A.length = q) (hX : X = obPb q o) (h : LCon P f (.agg (poV o) :: rest) (obP o) r (obP o')) (hl : (obP o').length = (obP o).length)
  (hr : Ref (fun _=>False) r) (hrest : Refs (fun _=>False) rest) (hcv : ∀ m,convs m rest = rest)
  (k : KL r (A ++ (obPb q o' ++ L))) : @clY P (.fn f [] []) (.agg (pvV q o) :: rest) m ⟨K,KL⟩:=by
 subst hA; subst hX; subst hm
 refine clY.seg (A:=A) (B:=obP o) (B':=obP o') (C:=L) h hl (fun ob ho=>⟨lies_po ob ho,obP_alive o ob ho⟩) (fun ob ho=>by rw [← hl]; exact lies_po ob ho) ⟨poV_refs,Refs.mono (fun _ h=>h.elim) _ hrest⟩ (Ref.mono (fun _ h=>h.elim) _ hr) ?_ ?_ ?_ ?_
 ·rw [obP_ren,Zb]
 ·simp only [poV,pvV,rens,V.ren,rens_pure _ hrest,Zd,Yu,Nat.add_zero,ZS]
 ·have h1 : (A ++ (obPb A.length o ++ L))[A.length]? = some (.arr true 9 (rowsEv (A.length + 1) o.g.events)):=by
   rw [Ze (Zu _),Zk]; rfl
  have h2 : (A ++ (obPb A.length o ++ L))[A.length + (o.g.events.length + 1)]? = some (.arr true 9 (rowsEv (A.length + (o.g.events.length + 1) + 1) o.g.parked)):=by
   rw [Ze (by omega),ZV,Zg (by rw [obPb_len]; omega),obPb_1]
  have h3 : (A ++ (obPb A.length o ++ L))[A.length + (o.g.events.length + 1 + (o.g.parked.length + 1))]? = some (.arr true 1 (o.added.map encI)):=by
   rw [Ze (by omega),ZV,Zg (by rw [obPb_len]; omega),obPb_2]
  simp only [Zd,Yu,convs,hcv,pvV,conv,h1,h2,h3]
 ·rw [V.ren_pure _ hr,obP_ren,Zb]; exact k
theorem clY.segG3 {P : Program} {f : FuncId} {a b c : Ob} {G L : List Ob} {rest : List V} {g g' : Gr} {r : V} {K KL : V → List Ob → Prop} (hG : G = obGb 3 g) (h : LCon P f (.agg (grV 0 g) :: rest) (obG g) r (obG g')) (hl : (obG g').length = (obG g).length)
  (hr : Ref (fun _=>False) r) (hrest : Refs (fun _=>False) rest) (hcv : ∀ m,convs m rest = rest)
  (k : KL r (a :: b :: c :: (obGb 3 g' ++ L))) : @clY P (.fn f [] []) (.agg (grV 3 g) :: rest) (a :: b :: c :: (G ++ L)) ⟨K,KL⟩:=by
 subst hG
 exact clY.segG (A:=[a,b,c]) h hl hr hrest hcv k
theorem clY.segP3 {P : Program} {f : FuncId} {a b c d x y : Ob} {G L B : List Ob} {N : Nat} {rest : List V} {o o' : Gm.Po} {r : V} {K KL : V → List Ob → Prop} (hGl : G.length = N) (hB : B = obPb (N + 6) o) (h : LCon P f (.agg (poV o) :: rest) (obP o) r (obP o')) (hl : (obP o').length = (obP o).length)
  (hr : Ref (fun _=>False) r) (hrest : Refs (fun _=>False) rest) (hcv : ∀ m,convs m rest = rest)
  (k : KL r (a :: b :: c :: (G ++ d :: x :: y :: (obPb (N + 6) o' ++ L)))) : @clY P (.fn f [] []) (.agg (pvV (N + 6) o) :: rest) (a :: b :: c :: (G ++ d :: x :: y :: (B ++ L))) ⟨K,KL⟩:=by
 refine clY.segP (A:=a :: b :: c :: (G ++ [d,x,y])) (L:=L) (X:=B) (by simp) (by simp only [Zl,Zj,hGl,ZN]) hB h hl hr hrest hcv ?_
 have e : (a :: b :: c :: (G ++ [d,x,y])) ++ (obPb (N + 6) o' ++ L) = a :: b :: c :: (G ++ d :: x :: y :: (obPb (N + 6) o' ++ L)):=by simp
 rw [e]; exact k
theorem wM_bd2 : ∀ l : List Ev,(∀ e ∈ l,EvOK e) → wM l ≤ l.length * 17592186044424
 | [],_=>by simp [wM]
 | e :: l,h=>by
   have h1:=wM_bd2 l fun x hx=>h x (ZF _ hx)
   have h2:=(h e Zs).2
   simp only [wM,Zl]
   omega
section
variable {P : Program} [Is P]
theorem gp_law (g : Gr) (e : Ev) (o : Gm.Po) (hg : GrOK g) (he : EvOK e) (hog : GrOK o.g) (hoa : o.added.length < 2 ^ 40) (how : wM o.g.events + wM o.g.parked < 2 ^ 55) (h46 : Con P 42 [.agg (encGr g),.agg (encEv e)] (.agg (encPo o))) (h47 : LCon P 44 [.agg (encGr g),.agg (encEv e)] [] (.agg (poV o)) (obP o)) :
  Con P 6 [.agg (encGr g),.agg (encEv e)] (.bool true):=by
 have he2:=he.2
 refine Con.of (n:=92) (rs:=[.tmp 4]) (Is.fn Try.func6) rfl (Is.call Try.call6) Try.results6 Try.ntmps6 trivial ?_
 simp only [method_specs_simp,seval]
 refine clY.con (c_szGraph g 1048576 (by decide) (by decide) hg) (by simp only [method_specs_simp]) ?_
 simp only [method_specs_simp,seval]
 refine gB_split (fun _=>trivial) (fun w1=>?_)
 obtain ⟨q1,q2,q3⟩:=sb_yes (wG_nn g) w1
 rw [q1]
 refine clY.con (c_szEvent e (1048576 - wG g) q3 (by omega) he) (by simp only [method_specs_simp]) ?_
 simp only [method_specs_simp,seval]
 refine gB_split (fun _=>trivial) (fun w2=>?_)
 obtain ⟨q4,q5,q6⟩:=sb_yes (wE_nn e) w2
 refine ⟨by kernel_rfl,?_⟩
 refine clY.con (c_toGraph g hg) (by simp only [method_specs_simp]) ?_
 simp only [method_specs_simp,seval]
 refine clY.con (c_toEvent e he) (by simp only [method_specs_simp]) ?_
 simp only [method_specs_simp,seval]
 refine clY.con (h46) (by simp only [method_specs_simp]) ?_
 simp only [method_specs_simp,seval,encPo]
 refine clY.newD 0 (n_toGraph g hg) (dcv_zero _ _) (by simp only [method_specs_simp]) (grV_flat 0 g) (obG_flat g) ?_
 obtain ⟨G,hG⟩ : ∃ G,G = obGb 3 g:=⟨_,rfl⟩
 obtain ⟨N,hN⟩ : ∃ N,N = g.events.length + 1 + (g.parked.length + 1):=⟨_,rfl⟩
 have hp : Past G N:=Past.mk' (by rw [hG,hN,obGb_len])
 have hA1 : ∀ L : List Ob,(G ++ L)[0]? = some (.arr true 9 (rowsEv 4 g.events)):=fun L=>by rw [hG]; rfl
 have hA2 : ∀ (a b c : Ob) (L : List Ob),(a :: b :: c :: (G ++ L))[3 + (g.events.length + 1)]? = some (.arr true 9 (rowsEv (3 + (g.events.length + 1) + 1) g.parked)):=fun a b c L=>by
  rw [show 3 + (g.events.length + 1) = (g.events.length + 1) + 1 + 1 + 1 by omega,Za,Za,Za,hG,obGb_at]
  rw [show 3 + (g.events.length + 1) = g.events.length + 1 + 1 + 1 + 1 by omega]
 simp only [method_specs_simp,seval,hp.len,hp.g0,hp.g,hp.b0,hp.b,hp.v0,hp.v,hp.a0,hp.a,hp.w0,hp.w,hp.s0,hp.s,Zb,Zc,Zd,obG_ren,grV,← hG,hA1,hA2]
 have hL : ∀ (a b c : Ob) (L : List Ob),LiesG (a :: b :: c :: (G ++ L)) 3 g:=fun a b c L=>LiesG.mk (A:=[a,b,c]) rfl (by rw [hG]; rfl)
 refine clY.new (n_toEvent e he) (by simp only [method_specs_simp,hp.len,hp.g0,hp.g,hp.b0,hp.b,hp.v0,hp.v,hp.a0,hp.a,hp.w0,hp.w,hp.s0,hp.s,Zb,Zc,Zd]) ?_
 simp only [method_specs_simp,seval,hp.len,hp.g0,hp.g,hp.b0,hp.b,hp.v0,hp.v,hp.a0,hp.a,hp.w0,hp.w,hp.s0,hp.s,Zb,Zc,Zd,rowEv]
 have hI : ∀ ob : Ob,obI e = ob → (match some ob with | some (Ob.arr lv sz xs)=>true | x=>false) = true:=fun ob h=>by rw [← h]; rfl
 refine ⟨hI _ rfl,?_⟩
 have hlen6 : ∀ (a b c d f h : Ob),(a :: b :: c :: (G ++ [d,f,h])).length = N + 6:=fun a b c d f h=>by simp only [Zl,Zj,hp.len,ZN]
 have hE4 : ∀ (a b c d : Ob) (G' L : List Ob),G'.length = N → (a :: b :: c :: (G' ++ d :: obI e :: L))[N + 4]? = some (obI e):=fun a b c d G' L h=>by
  rw [Za,Za,Za,(Past.mk' h).g]; rfl
 refine clY.newD 3 h47 ?_ ⟨encGr_ref1 _ g,encEv_ref1 _ e,trivial⟩ (poV_flat o) (obP_flat o) ?_
 ·show [dcv 3 _ (.agg (grV 3 g)),dcv 3 _ (.agg (rowEv (N + 4) e))] = _
  rw [(hL _ _ _ _).dcv,dcv_ev3 (hE4 _ _ _ _ _ _ hp.len)]
 rw [hlen6,obP_ren,poV_ren]
 obtain ⟨B,hB⟩ : ∃ B,B = obPb (N + 6) o:=⟨_,rfl⟩
 obtain ⟨M,hM⟩ : ∃ M,M = o.g.events.length + 1 + (o.g.parked.length + 1) + 1:=⟨_,rfl⟩
 have hpB : Past B M:=Past.mk' (by rw [hB,hM,obPb_len])
 have hin : ∀ (a b c d f h : Ob) (G' B' L : List Ob),G'.length = N → ∀ (i : Nat) (ob : Ob),B'[i]? = some ob → (a :: b :: c :: (G' ++ d :: f :: h :: (B' ++ L)))[N + 6 + i]? = some ob:=fun a b c d f h G' B' L hG' i ob hi=>by
  rw [show N + 6 + i = (N + (i + 1 + 1 + 1)) + 1 + 1 + 1 by omega,Za,Za,Za,(Past.mk' hG').g,Za,Za,Za,Zg (Zf.1 hi).1]; exact hi
 have hB0 : ∀ L : List Ob,(B ++ L)[0]? = some (.arr true 9 (rowsEv (N + 6 + 1) o.g.events)):=fun L=>by rw [hB]; rfl
 have hB1 : ∀ (a b c d f h : Ob) (L : List Ob),(a :: b :: c :: (G ++ d :: f :: h :: (B ++ L)))[N + 6 + (o.g.events.length + 1)]? = some _:=fun a b c d f h L=>hin a b c d f h G B L hp.len _ _ (by rw [hB]; exact obPb_1 _ _)
 have hB2 : ∀ (a b c d f h : Ob) (L : List Ob),(a :: b :: c :: (G ++ d :: f :: h :: (B ++ L)))[N + 6 + (o.g.events.length + 1 + (o.g.parked.length + 1))]? = some _:=fun a b c d f h L=>hin a b c d f h G B L hp.len _ _ (by rw [hB]; exact obPb_2 _ _)
 have hLP : ∀ (a b c d f h : Ob) (G' L : List Ob),G'.length = N → LiesP (a :: b :: c :: (G' ++ d :: f :: h :: (B ++ L))) (N + 6) o:=fun a b c d f h G' L hG' i ob hi=>hin a b c d f h G' B L hG' i ob (by rw [hB]; exact hi)
 rw [← hB]
 simp only [method_specs_simp,seval,hpB.len,hpB.g0,hpB.g,hpB.b0,hpB.b,hpB.v0,hpB.v,hpB.a0,hpB.a,hpB.w0,hpB.w,hpB.s0,hpB.s,hp.len,hp.g0,hp.g,hp.b0,hp.b,hp.v0,hp.v,hp.a0,hp.a,hp.w0,hp.w,hp.s0,hp.s,Zb,Zc,Zd,hB0,hB1,hB2,pvV]
 refine clY.conD 3 (c_eqGraphOut o hog (by omega)) ?_ ⟨encPo_ref1 _ o,encPo_ref1 _ o,trivial⟩ trivial ?_
 ·show [dcv 3 _ (.agg (pvV (N + 6) o)),dcv 3 _ (.agg (encPo o))] = _
  rw [(hLP _ _ _ _ _ _ G _ hp.len).dcv,dcv_encPo]
 simp only [method_specs_simp,seval,hpB.len,hpB.g0,hpB.g,hpB.b0,hpB.b,hpB.v0,hpB.v,hpB.a0,hpB.a,hpB.w0,hpB.w,hpB.s0,hpB.s,hp.len,hp.g0,hp.g,hp.b0,hp.b,hp.v0,hp.v,hp.a0,hp.a,hp.w0,hp.w,hp.s0,hp.s,Zb,Zc,Zd,hB0,hB1,hB2]
 refine ⟨by kernel_rfl,?_⟩
 refine clY.con (c_toGraph g hg) (by simp only [method_specs_simp,hpB.len,hpB.g0,hpB.g,hpB.b0,hpB.b,hpB.v0,hpB.v,hpB.a0,hpB.a,hpB.w0,hpB.w,hpB.s0,hpB.s,hp.len,hp.g0,hp.g,hp.b0,hp.b,hp.v0,hp.v,hp.a0,hp.a,hp.w0,hp.w,hp.s0,hp.s,Zb,Zc,Zd,hB0,hB1,hB2]) ?_
 simp only [method_specs_simp,seval,hpB.len,hpB.g0,hpB.g,hpB.b0,hpB.b,hpB.v0,hpB.v,hpB.a0,hpB.a,hpB.w0,hpB.w,hpB.s0,hpB.s,hp.len,hp.g0,hp.g,hp.b0,hp.b,hp.v0,hp.v,hp.a0,hp.a,hp.w0,hp.w,hp.s0,hp.s,Zb,Zc,Zd,hB0,hB1,hB2]
 refine clY.conD 3 (c_eqGraph g hg) ?_ ⟨encGr_ref1 _ g,encGr_ref1 _ g,trivial⟩ trivial ?_
 ·show [dcv 3 _ (.agg (grV 3 g)),dcv 3 _ (.agg (encGr g))] = _
  rw [(hL _ _ _ _).dcv,dcv_encG]
 simp only [method_specs_simp,seval,hpB.len,hpB.g0,hpB.g,hpB.b0,hpB.b,hpB.v0,hpB.v,hpB.a0,hpB.a,hpB.w0,hpB.w,hpB.s0,hpB.s,hp.len,hp.g0,hp.g,hp.b0,hp.b,hp.v0,hp.v,hp.a0,hp.a,hp.w0,hp.w,hp.s0,hp.s,Zb,Zc,Zd,hB0,hB1,hB2,Zr]
 refine ⟨by kernel_rfl,?_⟩
 refine clY.con (c_toEvent e he) (by simp only [method_specs_simp,hpB.len,hpB.g0,hpB.g,hpB.b0,hpB.b,hpB.v0,hpB.v,hpB.a0,hpB.a,hpB.w0,hpB.w,hpB.s0,hpB.s,hp.len,hp.g0,hp.g,hp.b0,hp.b,hp.v0,hp.v,hp.a0,hp.a,hp.w0,hp.w,hp.s0,hp.s,Zb,Zc,Zd,hB0,hB1,hB2]) ?_
 simp only [method_specs_simp,seval,hpB.len,hpB.g0,hpB.g,hpB.b0,hpB.b,hpB.v0,hpB.v,hpB.a0,hpB.a,hpB.w0,hpB.w,hpB.s0,hpB.s,hp.len,hp.g0,hp.g,hp.b0,hp.b,hp.v0,hp.v,hp.a0,hp.a,hp.w0,hp.w,hp.s0,hp.s,Zb,Zc,Zd,hB0,hB1,hB2]
 refine clY.conD 3 (c_eqEvent e he) ?_ ⟨encEv_ref1 _ e,encEv_ref1 _ e,trivial⟩ trivial ?_
 ·show [dcv 3 _ (.agg (rowEv (N + 4) e)),dcv 3 _ (.agg (encEv e))] = _
  rw [dcv_ev3 (hE4 _ _ _ _ _ _ hp.len)]; rfl
 simp only [method_specs_simp,seval,hpB.len,hpB.g0,hpB.g,hpB.b0,hpB.b,hpB.v0,hpB.v,hpB.a0,hpB.a,hpB.w0,hpB.w,hpB.s0,hpB.s,hp.len,hp.g0,hp.g,hp.b0,hp.b,hp.v0,hp.v,hp.a0,hp.a,hp.w0,hp.w,hp.s0,hp.s,Zb,Zc,Zd,hB0,hB1,hB2,Zr]
 have b1:=wM_le g.events
 have b2:=wM_le g.parked
 have b3:=wM_nn g.events
 have b4:=wM_nn g.parked
 have hwG : wG g = (g.events.length + wEs g.events) + (g.parked.length + wEs g.parked):=rfl
 have hwE : wE e = e.text.size + e.prev.length:=rfl
 have hk : decide (1 + (wM g.events + wM g.parked) + (e.prev.length : Int) < 0) = false:=decide_eq_false (by omega)
 refine clY.segG3 hG (n_markGraph g 1 (by decide) (by decide) hg (by omega)) (mGr_len 1 g) trivial ⟨trivial,trivial⟩ (fun m=>by simp only [convs,conv]) ?_
 obtain ⟨G2,hG2⟩ : ∃ G2,G2 = obGb 3 (mGr 1 g):=⟨_,rfl⟩
 have hp2 : Past G2 N:=Past.mk' (by rw [hG2,hN,obGb_len]; simp only [mGr,mEvs_len])
 rw [← hG2]
 simp only [method_specs_simp,seval,hk,bne_self_eq_false,Zr,hpB.len,hpB.g0,hpB.g,hpB.b0,hpB.b,hpB.v0,hpB.v,hpB.a0,hpB.a,hpB.w0,hpB.w,hpB.s0,hpB.s,hp2.len,hp2.g0,hp2.g,hp2.b0,hp2.b,hp2.v0,hp2.v,hp2.a0,hp2.a,hp2.w0,hp2.w,hp2.s0,hp2.s,Zb,Zc,Zd,hB0]
 refine clY.atE (q:=N + 4) (n_markEvent e (1 + (wM g.events + wM g.parked)) (by omega) (by omega) he) ?_ (pure_ints _ _) trivial ⟨trivial,trivial⟩ (fun m=>by simp only [convs,conv]) ?_
 ·exact hE4 _ _ _ _ G2 _ hp2.len
 simp only [method_specs_simp,seval,hk,bne_self_eq_false,Zr,hpB.len,hpB.g0,hpB.g,hpB.b0,hpB.b,hpB.v0,hpB.v,hpB.a0,hpB.a,hpB.w0,hpB.w,hpB.s0,hpB.s,hp2.len,hp2.g0,hp2.g,hp2.b0,hp2.b,hp2.v0,hp2.v,hp2.a0,hp2.a,hp2.w0,hp2.w,hp2.s0,hp2.s,Zb,Zc,Zd,hB0]
 refine clY.conD 3 (c_eqGraphOut o hog (by omega)) ?_ ⟨encPo_ref1 _ o,encPo_ref1 _ o,trivial⟩ trivial ?_
 ·show [dcv 3 _ (.agg (pvV (N + 6) o)),dcv 3 _ (.agg (encPo o))] = _
  rw [(hLP _ _ _ _ _ _ G2 _ hp2.len).dcv,dcv_encPo]
 simp only [method_specs_simp,seval,hk,bne_self_eq_false,Zr,hpB.len,hpB.g0,hpB.g,hpB.b0,hpB.b,hpB.v0,hpB.v,hpB.a0,hpB.a,hpB.w0,hpB.w,hpB.s0,hpB.s,hp2.len,hp2.g0,hp2.g,hp2.b0,hp2.b,hp2.v0,hp2.v,hp2.a0,hp2.a,hp2.w0,hp2.w,hp2.s0,hp2.s,Zb,Zc,Zd,hB0]
 have n1:=wM_nn o.g.events
 have n2:=wM_nn o.g.parked
 have hwP : wPo o = wM o.g.events + wM o.g.parked + o.added.length:=rfl
 refine clY.segP3 hp2.len hB (n_markGraphOut o 1 (by decide) (by decide) hog (by omega) (by omega)) (mPo_len 1 o) trivial ⟨trivial,trivial⟩ (fun m=>by simp only [convs,conv]) ?_
 obtain ⟨B2,hB2'⟩ : ∃ B2,B2 = obPb (N + 6) (mPo 1 o):=⟨_,rfl⟩
 have hpB2 : Past B2 M:=Past.mk' (by rw [hB2',hM,obPb_len]; simp only [mPo,mGr,mEvs_len])
 have hLP2 : ∀ (a b c d f h : Ob) (L : List Ob),LiesP (a :: b :: c :: (G2 ++ d :: f :: h :: (B2 ++ L))) (N + 6) (mPo 1 o):=fun a b c d f h L i ob hi=>hin a b c d f h G2 B2 L hp2.len i ob (by rw [hB2']; exact hi)
 have hk3 : decide (1 + wPo o < 0) = false:=decide_eq_false (by omega)
 have hhe:=c_heldGraphOut (P:=P) o 1 (by decide) (by decide) hog (by omega) (by omega)
 rw [← hB2']
 simp only [method_specs_simp,seval,hk,hk3,bne_self_eq_false,Zr,hpB2.len,hpB2.g0,hpB2.g,hpB2.b0,hpB2.b,hpB2.v0,hpB2.v,hpB2.a0,hpB2.a,hpB2.w0,hpB2.w,hpB2.s0,hpB2.s,hp2.len,hp2.g0,hp2.g,hp2.b0,hp2.b,hp2.v0,hp2.v,hp2.a0,hp2.a,hp2.w0,hp2.w,hp2.s0,hp2.s,Zb,Zc,Zd]
 refine clY.conD 3 hhe ?_ ⟨encPo_ref1 _ _,trivial,trivial⟩ trivial ?_
 ·show [dcv 3 _ (.agg (pvV (N + 6) o)),dcv 3 _ (.int .i64 1)] = _
  rw [← pvV_m (N + 6) 1 o,(hLP2 _ _ _ _ _ _ _).dcv]; rfl
 simp only [method_specs_simp,seval,hk,hk3,bne_self_eq_false,Zr,hpB2.len,hpB2.g0,hpB2.g,hpB2.b0,hpB2.b,hpB2.v0,hpB2.v,hpB2.a0,hpB2.a,hpB2.w0,hpB2.w,hpB2.s0,hpB2.s,hp2.len,hp2.g0,hp2.g,hp2.b0,hp2.b,hp2.v0,hp2.v,hp2.a0,hp2.a,hp2.w0,hp2.w,hp2.s0,hp2.s,Zb,Zc,Zd]
 refine ⟨by kernel_rfl,?_⟩
 refine clY.con (c_toGraph g hg) (by simp only [method_specs_simp,hk,hk3,bne_self_eq_false,Zr,hpB2.len,hpB2.g0,hpB2.g,hpB2.b0,hpB2.b,hpB2.v0,hpB2.v,hpB2.a0,hpB2.a,hpB2.w0,hpB2.w,hpB2.s0,hpB2.s,hp2.len,hp2.g0,hp2.g,hp2.b0,hp2.b,hp2.v0,hp2.v,hp2.a0,hp2.a,hp2.w0,hp2.w,hp2.s0,hp2.s,Zb,Zc,Zd]) ?_
 simp only [method_specs_simp,seval,hk,hk3,bne_self_eq_false,Zr,hpB2.len,hpB2.g0,hpB2.g,hpB2.b0,hpB2.b,hpB2.v0,hpB2.v,hpB2.a0,hpB2.a,hpB2.w0,hpB2.w,hpB2.s0,hpB2.s,hp2.len,hp2.g0,hp2.g,hp2.b0,hp2.b,hp2.v0,hp2.v,hp2.a0,hp2.a,hp2.w0,hp2.w,hp2.s0,hp2.s,Zb,Zc,Zd]
 refine clY.con (c_toEvent e he) (by simp only [method_specs_simp,hk,hk3,bne_self_eq_false,Zr,hpB2.len,hpB2.g0,hpB2.g,hpB2.b0,hpB2.b,hpB2.v0,hpB2.v,hpB2.a0,hpB2.a,hpB2.w0,hpB2.w,hpB2.s0,hpB2.s,hp2.len,hp2.g0,hp2.g,hp2.b0,hp2.b,hp2.v0,hp2.v,hp2.a0,hp2.a,hp2.w0,hp2.w,hp2.s0,hp2.s,Zb,Zc,Zd]) ?_
 simp only [method_specs_simp,seval,hk,hk3,bne_self_eq_false,Zr,hpB2.len,hpB2.g0,hpB2.g,hpB2.b0,hpB2.b,hpB2.v0,hpB2.v,hpB2.a0,hpB2.a,hpB2.w0,hpB2.w,hpB2.s0,hpB2.s,hp2.len,hp2.g0,hp2.g,hp2.b0,hp2.b,hp2.v0,hp2.v,hp2.a0,hp2.a,hp2.w0,hp2.w,hp2.s0,hp2.s,Zb,Zc,Zd]
 obtain ⟨Q,hQ⟩ : ∃ Q,Q = N + M + 7:=⟨_,rfl⟩
 have hlen7 : ∀ (a b c d f h x : Ob),(a :: b :: c :: (G2 ++ d :: f :: h :: (B2 ++ [x]))).length = Q:=fun a b c d f h x=>by
  simp only [Zl,Zj,hp2.len,hpB2.len,ZN,hQ]; omega
 refine clY.newD 0 h47 (dcv_zero _ _) ⟨encGr_ref1 _ g,encEv_ref1 _ e,trivial⟩ (poV_flat o) (obP_flat o) ?_
 rw [hlen7,obP_ren,poV_ren]
 obtain ⟨B3,hB3⟩ : ∃ B3,B3 = obPb Q o:=⟨_,rfl⟩
 have hpB3 : Past B3 M:=Past.mk' (by rw [hB3,hM,obPb_len])
 have hin3 : ∀ (a b c d f h x : Ob) (L : List Ob) (i : Nat) (ob : Ob),B3[i]? = some ob → (a :: b :: c :: (G2 ++ d :: f :: h :: (B2 ++ x :: (B3 ++ L))))[Q + i]? = some ob:=fun a b c d f h x L i ob hi=>by
  rw [show Q + i = (N + ((M + (i + 1)) + 1 + 1 + 1)) + 1 + 1 + 1 by omega,Za,Za,Za,hp2.g,Za,Za,Za,hpB2.g,Za,Zg (Zf.1 hi).1]; exact hi
 have hC0 : ∀ (a b c d f h x : Ob) (L : List Ob),(a :: b :: c :: (G2 ++ d :: f :: h :: (B2 ++ x :: (B3 ++ L))))[Q]? = some _:=fun a b c d f h x L=>hin3 a b c d f h x L 0 _ (by rw [hB3]; exact obPb_0 _ _)
 have hC1 : ∀ (a b c d f h x : Ob) (L : List Ob),(a :: b :: c :: (G2 ++ d :: f :: h :: (B2 ++ x :: (B3 ++ L))))[Q + (o.g.events.length + 1)]? = some _:=fun a b c d f h x L=>hin3 a b c d f h x L _ _ (by rw [hB3]; exact obPb_1 _ _)
 have hC2 : ∀ (a b c d f h x : Ob) (L : List Ob),(a :: b :: c :: (G2 ++ d :: f :: h :: (B2 ++ x :: (B3 ++ L))))[Q + (o.g.events.length + 1 + (o.g.parked.length + 1))]? = some _:=fun a b c d f h x L=>hin3 a b c d f h x L _ _ (by rw [hB3]; exact obPb_2 _ _)
 have hLP3 : ∀ (a b c d f h x : Ob) (L : List Ob),LiesP (a :: b :: c :: (G2 ++ d :: f :: h :: (B2 ++ x :: (B3 ++ L)))) Q o:=fun a b c d f h x L i ob hi=>hin3 a b c d f h x L i ob (by rw [hB3]; exact hi)
 rw [← hB3]
 simp only [method_specs_simp,seval,hk,hk3,bne_self_eq_false,Zr,hC0,hC1,hC2,hpB3.len,hpB3.g0,hpB3.g,hpB3.b0,hpB3.b,hpB3.v0,hpB3.v,hpB3.a0,hpB3.a,hpB3.w0,hpB3.w,hpB3.s0,hpB3.s,hpB2.len,hpB2.g0,hpB2.g,hpB2.b0,hpB2.b,hpB2.v0,hpB2.v,hpB2.a0,hpB2.a,hpB2.w0,hpB2.w,hpB2.s0,hpB2.s,hp2.len,hp2.g0,hp2.g,hp2.b0,hp2.b,hp2.v0,hp2.v,hp2.a0,hp2.a,hp2.w0,hp2.w,hp2.s0,hp2.s,Zb,Zc,Zd,pvV]
 refine clY.conD 3 (c_eqGraphOut o hog (by omega)) ?_ ⟨encPo_ref1 _ o,encPo_ref1 _ o,trivial⟩ trivial ?_
 ·show [dcv 3 _ (.agg (pvV Q o)),dcv 3 _ (.agg (encPo o))] = _
  rw [(hLP3 _ _ _ _ _ _ _ _).dcv,dcv_encPo]
 simp only [method_specs_simp,seval,hk,hk3,bne_self_eq_false,Zr,hC0,hC1,hC2,hpB3.len,hpB3.g0,hpB3.g,hpB3.b0,hpB3.b,hpB3.v0,hpB3.v,hpB3.a0,hpB3.a,hpB3.w0,hpB3.w,hpB3.s0,hpB3.s,hpB2.len,hpB2.g0,hpB2.g,hpB2.b0,hpB2.b,hpB2.v0,hpB2.v,hpB2.a0,hpB2.a,hpB2.w0,hpB2.w,hpB2.s0,hpB2.s,hp2.len,hp2.g0,hp2.g,hp2.b0,hp2.b,hp2.v0,hp2.v,hp2.a0,hp2.a,hp2.w0,hp2.w,hp2.s0,hp2.s,Zb,Zc,Zd]
 refine clY.conD 3 hhe ?_ ⟨encPo_ref1 _ _,trivial,trivial⟩ trivial ?_
 ·show [dcv 3 _ (.agg (pvV (N + 6) o)),dcv 3 _ (.int .i64 1)] = _
  rw [← pvV_m (N + 6) 1 o,(hLP2 _ _ _ _ _ _ _).dcv]; rfl
 simp only [method_specs_simp,seval,hk,hk3,bne_self_eq_false,Zr,hC0,hC1,hC2,hpB3.len,hpB3.g0,hpB3.g,hpB3.b0,hpB3.b,hpB3.v0,hpB3.v,hpB3.a0,hpB3.a,hpB3.w0,hpB3.w,hpB3.s0,hpB3.s,hpB2.len,hpB2.g0,hpB2.g,hpB2.b0,hpB2.b,hpB2.v0,hpB2.v,hpB2.a0,hpB2.a,hpB2.w0,hpB2.w,hpB2.s0,hpB2.s,hp2.len,hp2.g0,hp2.g,hp2.b0,hp2.b,hp2.v0,hp2.v,hp2.a0,hp2.a,hp2.w0,hp2.w,hp2.s0,hp2.s,Zb,Zc,Zd]
theorem goP_mem : ∀ (f : Nat) (E K : List Ev) (A : List Int) (p : Ev → Prop),(∀ y ∈ E,p y) → (∀ y ∈ K,p y) → (∀ y ∈ (Gm.goP f E K A).1,p y) ∧ (∀ y ∈ (Gm.goP f E K A).2.1,p y)
 | 0,E,K,A,p,h1,h2=>⟨h1,h2⟩
 | f + 1,E,K,A,p,h1,h2=>by
   unfold Gm.goP
   split
   ·exact ⟨h1,h2⟩
   ·rename_i x hx
    have hxp:=h2 x (ZE hx)
    have h3 : ∀ y ∈ K.eraseIdx (K.findIdx (Gm.allIn E)),p y:=fun y hy=>h2 y (Yw hy)
    split
    ·refine goP_mem f _ _ _ p (fun y hy=>?_) h3
     rcases Gm.insE_mem.1 hy with rfl | hy
     ·exact hxp
     ·exact h1 y hy
    ·exact goP_mem f _ _ _ p h1 h3
theorem putP_ok (g : Gr) (e : Ev) (hg : GrOK g) (he : EvOK e) (hw : Gm.Wl g) : ((∀ y ∈ (Gm.putP g e).g.events,EvOK y) ∧ (∀ y ∈ (Gm.putP g e).g.parked,EvOK y)) ∧ (Gm.putP g e).g.events.length ≤ 60 ∧ (Gm.putP g e).g.parked.length ≤ 21 ∧ (Gm.putP g e).added.length ≤ 21:=by
 have hel:=hw.el
 have hkl:=hw.kl
 have hi : ∀ l : List Ev,(∀ y ∈ l,EvOK y) → ∀ y ∈ Gm.insE l e,EvOK y:=fun l hl y hy=>by
  rcases Gm.insE_mem.1 hy with rfl | hy
  ·exact he
  ·exact hl y hy
 cases h1 : Gm.thereP g e with
 | true =>
  have hpp : Gm.putP g e = Gm.illP 7:=by unfold Gm.putP; rw [h1]; rfl
  rw [hpp]; exact ⟨⟨fun y hy=>(by cases hy),fun y hy=>(by cases hy)⟩,by decide,by decide,by decide⟩
 | false =>
  cases h2 : Gm.fullP g e with
  | true =>
   have hpp : Gm.putP g e = Gm.illP 9:=by unfold Gm.putP; rw [h1,h2]; rfl
   rw [hpp]; exact ⟨⟨fun y hy=>(by cases hy),fun y hy=>(by cases hy)⟩,by decide,by decide,by decide⟩
  | false =>
   cases h3 : Gm.allIn g.events e with
   | false =>
    rw [Gm_putP_parked h1 h2 h3]
    exact ⟨⟨hg.1.2,hi _ hg.2.2⟩,hel,by show (Gm.insE g.parked e).length ≤ 21; rw [Gm.insE_len]; omega,by show 0 ≤ 21; omega⟩
   | true =>
    obtain ⟨E1,K1,A1,hgo⟩ : ∃ E K A,Gm.goP g.parked.length (Gm.insE g.events e) g.parked [e.id] = (E,K,A):=⟨_,_,_,rfl⟩
    rw [Gm_putP_whole h1 h2 h3 hgo]
    have hlt60 : g.events.length < 60:=by
     unfold Gm.fullP at h2
     rw [ZW] at h2
     have : g.events.length ≠ 60:=by simpa using h2.1
     omega
    have h0:=h1
    unfold Gm.thereP at h0
    rw [ZW] at h0
    have hi0 : Gm.GoI (Gm.insE g.events e) g.parked:=by
     refine ⟨hw.se.ins h0.1,hw.sk,fun y hy=>?_,by rw [Gm.insE_len]; omega⟩
     rcases Gm.insE_mem.1 hy with rfl | hy
     ·exact h0.2
     ·exact hw.dis y hy
    have k1:=Gm.goP_ok g.parked.length _ _ [e.id] hi0
    have k2:=goP_mem g.parked.length (Gm.insE g.events e) g.parked [e.id] EvOK (hi _ hg.1.2) hg.2.2
    rw [hgo] at k1 k2
    have k3:=k1.1.el
    have k4 : K1.length ≤ g.parked.length:=k1.2.1
    have k5 : A1.length ≤ 1 + g.parked.length:=k1.2.2
    exact ⟨k2,k3,by show K1.length ≤ 21; omega,by show A1.length ≤ 21; omega⟩
theorem gpP_ok (g : Gr) (e : Ev) (hg : GrOK g) (he : EvOK e) : GrOK (gpP g e).g ∧ (gpP g e).added.length < 2 ^ 40 ∧ wM (gpP g e).g.events + wM (gpP g e).g.parked < 2 ^ 55:=by
 have key : ((∀ y ∈ (gpP g e).g.events,EvOK y) ∧ (∀ y ∈ (gpP g e).g.parked,EvOK y)) ∧ (gpP g e).g.events.length ≤ 60 ∧ (gpP g e).g.parked.length ≤ 21 ∧ (gpP g e).added.length ≤ 21:=by
  cases r : Gm.grRight g && (Gm.evRight e && (e.room == g.room)) with
  | true =>
   have hpp : gpP g e = Gm.putP g e:=by unfold gpP; rw [r]; rfl
   rw [hpp]
   rw [Bool.and_eq_true] at r
   exact putP_ok g e hg he (Gm.right_wl r.1)
  | false =>
   have hpp : gpP g e = Gm.illP 1:=by unfold gpP; rw [r]; rfl
   rw [hpp]; exact ⟨⟨fun y hy=>(by cases hy),fun y hy=>(by cases hy)⟩,by decide,by decide,by decide⟩
 obtain ⟨⟨k1,k2⟩,k3,k4,k5⟩:=key
 have w1:=wM_bd2 _ k1
 have w2:=wM_bd2 _ k2
 refine ⟨⟨⟨by omega,k1⟩,⟨by omega,k2⟩⟩,by omega,by omega⟩
theorem c_FnExactGraphPut (g : Gr) (e : Ev) (hg : GrOK g) (he : EvOK e) : Con P 6 [.agg (encGr g),.agg (encEv e)] (.bool true):=by
 obtain ⟨h1,h2,h3⟩:=gpP_ok g e hg he
 exact gp_law g e _ hg he h1 h2 h3 (c_sGraphPut g e hg he) (n_GraphPut g e hg he)
end
end Go.Proofs.Ytnlobbbbgcdiiaa
end
section
namespace Go.Proofs.Ytnlobbbbgcdiiaa
set_option maxRecDepth 100000
theorem and_mk {a b : Bool} (ha : a = true) (hb : b = true) : (a && b) = true:=by rw [ha,hb]; rfl
theorem p_own : ownKnob Try.prog.godebug = none:=by kernel_rfl
theorem p_laid : laidOutB Try.prog = true:=by kernel_rfl
theorem p_maps : mapsRowed Try.prog = true:=by kernel_rfl
theorem p_stops : (Try.prog.stops == []) = true:=by kernel_rfl
theorem p_knobs : (Try.prog.stopKnobs == []) = true:=by kernel_rfl
theorem p_keys : Try.prog.plainKeys = true:=by kernel_rfl
theorem p_heard : Try.prog.stopsHeard = true:=by kernel_rfl
theorem p_enter : Try.prog.mayEnter = true:=by kernel_rfl
end Go.Proofs.Ytnlobbbbgcdiiaa
end
