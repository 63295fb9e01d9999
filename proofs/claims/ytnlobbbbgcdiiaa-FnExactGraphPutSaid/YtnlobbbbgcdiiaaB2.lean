/- The abstract machine: append to a slice of an object from some place on. The abstract machine: structs held against each other; maps. The abstract machine: calls that look deep into what the caller holds, and hand back objects that name each other. The abstract machine: conditions, computed. The abstract machine: calls that write what the caller holds. The abstract machine: many cells written at once. The abstract machine: copies, appends to slices whose capacity is known, and whether two slices overlap. The abstract machine: a region in the order of its text; a whole function. The abstract machine: a region whose order is drawn. The abstract machine: a drawn region is sound. The abstract machine: drawn regions in which copies and sums may come late. The abstract machine: drawn regions in which reads may come behind writes to maps. -/
import Derived.Laws.StructEq
import Derived.Laws.Externs
import Derived.Lib.Overlaps
import Derived.Laws.Cover3
import Derived.OrdersHeld
import Derived.Test.YtnlobbbbgcdiiaaB1
set_option linter.unusedSimpArgs false
set_option linter.unusedVariables false
set_option maxRecDepth 10000
set_option maxHeartbeats 4000000
open List renaming replicate → Za, getElem?_eq_some_iff → Zc, getElem?_append_right → Zd, getElem?_append_left → Ze, getElem?_map → Zf, replicate_succ → Zh, getElem?_set_self → Zi, getElem?_set_ne → Zj, getD_eq_getElem?_getD → Zm, eq_nil_of_length_eq_zero → Zn, all_eq_true → Zq, mem_map → Zt, getElem?_replicate → Zw, mem_cons_self → Zx, getElem?_eq_getElem → Zy, length_map → Zz, range → ZA, mem_cons_of_mem → ZE, mem_cons → ZI, getElem?_cons_zero → ZK, getElem?_eq_none → ZL, replicate_append_replicate → ZM, length_append → ZO, map_cons → ZP, getElem?_set → ZQ, mem_of_getElem? → ZS, length_cons → ZT, mem_range → ZU, append_nil → ZW, mem_append → ZX, flatten_append → ZY, getElem?_cons_succ → Ya, ext_getElem? → Yb, take_append_drop → Yd, contains_iff_mem → Yf, length_drop → Yi, map_append → Ym, map_nil → Yn, length_take → Yp, mem_of_mem_take → Yq, append_assoc → Yr, length_replicate → Ys, any_eq_true → Yt, mem_of_mem_drop → Yx, set_append_right → Yy, replicate_zero → YA, eq_of_mem_replicate → YB, getElem?_toArray → YC, size_toArray → YF, length_pos_iff → YI, getElem?_inj → YJ, set_cons_succ → YK, length_singleton → YL, drop_eq_getElem_cons → YN, getElem?_take_of_lt → YO
open Array renaming getD_eq_getD_getElem? → Zb, getElem?_eq_getElem → Zp, getElem?_eq_some_iff → Zr, getElem?_toList → Zs, getElem?_setIfInBounds → ZF, getElem?_eq_none_iff → Yg, mem_toList_iff → Yh, getElem?_modify → Yk, toList_push → Yl, replicate → YD, size_append → YE, toList_append → YG, ext_getElem? → YM
open Option renaming map_eq_some_iff → Zg, map_some → ZC, bind_some → ZD, getD_some → Yz, isSome_iff_exists → YH
open Nat renaming le_refl → Zk, zero_add → Zl, min → Zv, beq → ZB, add_mul → ZG, add_zero → ZH, lt_or_ge → ZN, lt_of_lt_of_le → ZR, eq_of_beq_eq_true → ZV, blt → Ye, sub_zero → Yj, le_trans → Yo, sub_self → Yu, mul_le_mul_right → Yv, add_sub_cancel_left → Yw
open Bool renaming and_eq_true → Zu, or_eq_true → ZJ, false_eq_true → ZZ, not_eq_true' → Yc
section
section
namespace Go.Pm
open Go.RowKit
theorem RR.dropR {c : Cx} {sz b : Nat} : ∀ {xs : List (List V)} {o : Nat} (k : Nat),RR c sz b o xs → RR c sz b (o + k * sz) (xs.drop k)
 | xs,o,0,h=>by simpa using h
 | [],o,k + 1,h=>trivial
 | x :: xs,o,k + 1,⟨h1,h2,h3⟩=>by
   have:=RR.dropR k h3
   rw [List.drop_succ_cons,ZG,Nat.one_mul,show o + (k * sz + sz) = o + sz + k * sz by omega]
   exact this
section
variable {P : Program} {o : Oper} {st : St} {K : St → Prop}
theorem append_coreO {t t' e ty : TypeId} {x y : Operand} {q off n sz : Nat} {ag : Bool} {zs : List V} {xs ys : List (List V)} (ho : o.op = .call { callee:=.builtin .append,args:=#[x,y],argTypes:=#[t,t'] }) (he : elt P t = some e) (hl : lay P e = some (sz,ag)) (hs : 0 < sz) (hz : zer P e = some zs) (hzs : zs.length = sz) (hq : seqT P t' = true)
  (hm : st.m[q]? = some (.arr true sz xs)) (hn : xs.length = off + n) (hly : ∀ z ∈ ys,z.length = sz) (h1 : ∀ z ∈ ys.flatten,oneV st.m z = true) (hb1 : (n + ys.length) * P.bytesOf e ≤ 2 ^ 47) (hb2 : n + ys.length ≤ 2 ^ 62)
  (h : K ⟨putT st.t o.dst (.ar st.m.length off (n + ys.length)),st.m.set q .dead ++ [.arr true sz (xs ++ ys)],st.g⟩) (h' : K ⟨putT st.t o.dst (.ar st.m.length 0 (n + ys.length)),st.m.set q .dead ++ [.arr true sz (xs.drop off ++ ys)],st.g⟩)
  {w0 w : World} {E Zo : Nat → Prop} {a : Act} {Q : Exit → Act → World → Prop} {β : List Lc} (M : Mem w Zo st.m β) (hE : ∀ b,liveAt st.m β b → E b ∨ w0.heap.size ≤ b) (hF : Frame E w0 w) (hd : a.defers = []) (ht : RVs (cx w Zo st.m β) st.t a.tmps.toList) {gh : List Value} (hgh : RVs (cx w Zo st.m β) st.g gh)
  (hvx : RV (cx w Zo st.m β) (.ar q off n) (a.eval x)) (hsrc : ∃ us : List Value,RVs (cx w Zo st.m β) ys.flatten us ∧ (Builtin.lenOf (a.eval y)).run P w = .ok ys.length w ∧ ∀ w2 : World,w2.heap = w.heap → (Builtin.firstCells sz ys.length (a.eval y)).run P w2 = .ok us.toArray w2) :
  o.wp P a w (fun a' w'=>∃ st',K st' ∧ Rel w0 E Zo gh st' a' w') Q:=by
 obtain ⟨_,l,hβ,⟨b1,b2,b3,b4⟩,b5,A',e1,b6⟩:=at_ar M (Agree.refl _) hm hvx
 obtain ⟨vs,s1,s2,s3⟩:=hsrc
 obtain ⟨i,d,g1,g2,g3,g4⟩:=lay_info hl
 obtain ⟨i',z,hi,hz',rfl⟩:=zer_out hz
 rw [g1] at hi; cases hi
 have hzsz : z.cells.size = sz:=by simpa using hzs
 have hvl : vs.length = ys.length * sz:=by rw [s1.length,flatten_len hly]
 have hone:=one_list M (Agree.refl _) h1 s1
 have hbytes : P.bytesOf e = i.bytes:=by simp [Program.bytesOf,g1]
 have hex : ∀ v w2,(Builtin.append_ #[t,t'] o.type #[a.eval x,a.eval y]).run P w = .ok v w2 → (execOp a.eval o).run P w = .ok (.value v) w2:=by
  intro v w2 hv
  simp [execOp,ho,resolve,invoke,builtin,hv]
 by_cases hfit : n + ys.length ≤ l.cap - off
 ·-- in place
  by_cases hcap : l.cap - off = 0
  ·-- nothing there,nothing new
   have hn0 : n = 0:=by omega
   have hy0 : ys = []:=Zn (by omega)
   subst hy0
   have hv0 : vs = []:=Zn (by simpa using hvl)
   subst hv0
   have hst : ∀ ad,A' = some ad → (storeCells (ad.add (n * i.size)) (#[] : Array Value).toList).run P w = .ok () w:=fun ad _=>rfl
   have hr:=run_append_fits (P:=P) (ty:=o.type) (elt_out he) g1 hq s2 (by rw [g3]; exact s3 w rfl) hfit hst (fun _=>rfl)
   obtain ⟨M2,hle2,hlv2⟩:=M.move hm hβ
   refine wp_value (v:=.slice A' (n + [].length) (l.cap - off)) (w':=w) (hex _ _ (by rw [e1]; exact hr)) ?_
   have hob : Ob.arr true sz (xs ++ []) = Ob.arr true sz xs:=by rw [ZW]
   rw [hob] at h
   refine ⟨_,h,_,M2,fun b hb=>hE b (hlv2 b hb),hF,by cases o.dst <;> exact hd,(ht.mono hle2).put ?_ o.dst,hgh.mono hle2⟩
   unfold RV
   rw [show (cx w Zo (st.m.set q .dead ++ [.arr true sz xs]) (β ++ [l])).m = st.m.set q .dead ++ [.arr true sz xs] from rfl,show (cx w Zo (st.m.set q .dead ++ [.arr true sz xs]) (β ++ [l])).β = β ++ [l] from rfl]
   rw [Zd (by simp),Zd (by rw [M.len]; exact Zk _)]
   simp only [List.length_set,Yu,ZK,M.len]
   exact ⟨by simp; omega,A',rfl,fun hlt=>by omega⟩
  ·rcases b4 with b4 | ⟨us,e',fr,k1,k2,k3,k4,k5⟩
   ·exact absurd (by omega : l.cap - off = 0) hcap
   have k1 : w.heap[l.b]? = some (.cells us e' fr):=k1
   have hA:=b6 (by omega)
   subst hA
   have hroom : (off + n) * sz + vs.length ≤ us.size:=by
    rw [hvl,k2,← ZG]; exact Yv _ (by omega)
   obtain ⟨w',us',r1,r2,r3,r4,r5⟩:=run_storeCells (P:=P) l.b ((off + n) * sz) e' fr vs 0 us w k1 k3.less (by omega) hone
   simp only [ZH] at r5
   have hst : ∀ ad,(some (⟨l.b,off * sz,none⟩ : Addr)) = some ad → (storeCells (ad.add (n * i.size)) vs.toArray.toList).run P w = .ok () w':=by
    rintro ad he; cases he
    rw [add_plain,g3,← ZG]
    exact r1
   have hr:=run_append_fits (P:=P) (ty:=o.type) (elt_out he) g1 hq s2 (by rw [g3]; exact s3 w rfl) hfit hst (fun h=>by cases h)
   have hcap2 : l.cap ≠ 0:=by omega
   have hblk : ∀ ys',(Ob.arr true sz ys').blk l = some l.b:=fun ys'=>by simp [Ob.blk,hcap2]
   obtain ⟨M1,hle1⟩:=M.turn (w':=w') (ob':=.arr true sz (xs ++ ys)) hm hβ (.inr ⟨_,_,rfl,rfl,by simp⟩) (fun b hb=>by rw [hblk] at hb ⊢; exact hb) r2.size (fun b hlt hne=>r2.block b (fun e=>hne (by rw [e]; exact hblk _)))
    (fun hle _=>by
     refine ⟨by simp; omega,b2,b3,.inr ⟨us',e',fr,r3,by rw [r4,k2],by rw [r4]; exact k3,?_,.inl rfl⟩⟩
     have hall : ∀ x ∈ xs ++ ys,x.length = sz:=by
      intro x hx'
      rcases ZX.1 hx' with h | h
      ·exact k4.length x h
      ·exact hly x h
     refine RR.of (us:=us.toList.take ((off + n) * sz) ++ vs) hall ?_ ?_
     ·rw [ZY]
      refine RVs.append ?_ (s1.mono hle)
      have:=rows_flat (c:=cx w Zo st.m β) k1 k4 (by rw [hn]; omega)
      rw [hn] at this
      exact this.mono hle
     ·intro j u hj
      show w'.cell? ⟨l.b,0 + j,none⟩ = some u
      rw [cell_at r3,Zl,r5]
      have htl : (us.toList.take ((off + n) * sz)).length = (off + n) * sz:=by simp; omega
      rcases ZN j ((off + n) * sz) with hlt | hge
      ·rw [if_neg (by omega)]
       rw [Ze (by omega),List.getElem?_take,if_pos hlt] at hj
       simpa using hj
      ·rw [Zd (by omega),htl] at hj
       have:=(Zc.1 hj).1
       rw [if_pos (by omega)]
       exact hj)
   have hm1 : (st.m.set q (.arr true sz (xs ++ ys)))[q]? = some (.arr true sz (xs ++ ys)):=Zi (Zc.1 hm).1
   obtain ⟨M2,hle2,hlv2⟩:=M1.move hm1 hβ
   have hset : ((st.m.set q (.arr true sz (xs ++ ys))).set q .dead) = st.m.set q .dead:=by simp
   rw [hset] at M2 hle2 hlv2
   refine wp_value (v:=.slice (some ⟨l.b,off * sz,none⟩) (n + ys.length) (l.cap - off)) (w':=w') (hex _ _ (by rw [e1]; exact hr)) ?_
   refine ⟨_,h,_,M2,?_,r2.frame hF (hE _ ⟨q,_,l,hm,hβ,hblk _⟩),by cases o.dst <;> exact hd,(ht.mono (hle1.trans hle2)).put ?_ o.dst,hgh.mono (hle1.trans hle2)⟩
   ·intro b hb
    obtain ⟨p,ob,l',h3,h4,h5⟩:=hlv2 b hb
    rcases getElem?_set_some h3 with ⟨e2,e3,_⟩ | ⟨hne,h3⟩
    ·subst e2; subst e3
     rw [hβ] at h4; cases h4
     rw [hblk] at h5
     exact hE b ⟨_,_,l,hm,hβ,by rw [hblk]; exact h5⟩
    ·exact hE b ⟨p,ob,l',h3,h4,h5⟩
   ·unfold RV
    rw [show (cx w' Zo (st.m.set q .dead ++ [.arr true sz (xs ++ ys)]) (β ++ [l])).m = st.m.set q .dead ++ [.arr true sz (xs ++ ys)] from rfl,show (cx w' Zo (st.m.set q .dead ++ [.arr true sz (xs ++ ys)]) (β ++ [l])).β = β ++ [l] from rfl]
    rw [Zd (by simp),Zd (by rw [M.len]; exact Zk _)]
    simp only [List.length_set,Yu,ZK,M.len]
    exact ⟨by simp; omega,_,rfl,fun hlt=>rfl⟩
 ·-- a new row
  have hold : ∃ olds : List Value,RVs (cx w Zo st.m β) (xs.drop off).flatten olds ∧ (Builtin.firstCells i.size n (.slice A' n (l.cap - off))).run P w.drew = .ok olds.toArray w.drew:=by
   by_cases hx0 : n = 0
   ·have : xs.drop off = []:=List.drop_eq_nil_of_le (by omega)
    rw [this]
    exact ⟨[],rfl,run_firstCells (by simp [hx0]) (.inl hx0) _⟩
   ·rcases b4 with b4 | ⟨us,e',fr,k1,k2,k3,k4,k5⟩
    ·omega
    ·have k4':=k4.dropR off
     obtain ⟨os,j1,j2,j3⟩:=k4'.list
     refine ⟨os,j1,?_⟩
     have hA : A' = some ⟨l.b,off * sz,none⟩:=b6 (by omega)
     rw [g3]
     exact run_firstCells (w:=w.drew) (by rw [j2,Yi,hn,Yw]) (.inr ⟨l.b,off * sz,hA,fun j u hj=>(show w.cell? _ = some u from by have:=j3 j u hj; rwa [Zl] at this)⟩) _
  obtain ⟨olds,o1,o2⟩:=hold
  have h48:=growslice_fits (need:=n + ys.length) (old:=l.cap - off) (bytes:=i.bytes) (by omega) (by rw [hbytes] at hb1; omega)
  have hr:=run_append_grows (P:=P) (ty:=o.type) (elt_out he) g1 hz' hq s2 (by rw [g3]; exact s3 w.drew rfl) o2 (by omega) (by omega) h48
  have hge:=grownCap_ge w (n + ys.length) (l.cap - off) e
  have hlem:=grownCap_le_maxLen w (n + ys.length) (l.cap - off) e (by unfold maxLen; omega)
  have hxs : ∀ x ∈ xs.drop off,x.length = sz:=by
   intro y hy
   rcases b4 with b4 | ⟨us,e',fr,k1,k2,k3,k4,k5⟩
   ·have : xs = []:=Zn (by omega)
    subst this; simp at hy
   ·exact k4.length y (Yx hy)
  have hol : olds.length = n * sz:=by rw [o1.length,flatten_len hxs,Yi,hn,Yw]
  -- the elder row dies,the new one is laid
  obtain ⟨M1,hle1⟩:=M.turn (w':=w) (ob':=.dead) hm hβ (.inl rfl) (fun b hb=>by simp [Ob.blk] at hb) rfl (fun _ _ _=>rfl) (fun _ _=>trivial)
  obtain ⟨M2,hle2⟩:=M1.holes 1
  let cells : Array Value:=olds.toArray ++ vs.toArray ++ Builtin.zeroCells z.cells (grownCap w (n + ys.length) (l.cap - off) e - (n + ys.length))
  have hcs : cells.size = grownCap w (n + ys.length) (l.cap - off) e * sz:=by
   simp only [cells,YE,YF,zeroCells_size,hol,hvl,hzsz,← ZG]
   congr 1; omega
  have hG : Grow w (w.drew.alloc (.cells cells e)):=(Grow.drew w).trans (Grow.alloc w.drew _)
  have hhole : (st.m.set q .dead ++ Za 1 Ob.hole)[st.m.length]? = some .hole:=by
   rw [Zd (by simp)]; simp
  have hsetm : (st.m.set q .dead ++ Za 1 Ob.hole).set st.m.length (.arr true sz (xs.drop off ++ ys)) = st.m.set q .dead ++ [.arr true sz (xs.drop off ++ ys)]:=by
   rw [Yy _ _ (by simp)]; simp
  have hxl : ∀ x ∈ xs.drop off ++ ys,x.length = sz:=by
   intro y hy
   rcases ZX.1 hy with h | h
   ·exact hxs y h
   ·exact hly y h
  obtain ⟨M3,hle3⟩:=M2.fill (w':=w.drew.alloc (.cells cells e)) (ob:=.arr true sz (xs.drop off ++ ys)) (l:=⟨w.heap.size,grownCap w (n + ys.length) (l.cap - off) e⟩) hhole hG (fun b hb=>by simp only [Ob.blk] at hb; split at hb <;> simp at hb; omega)
   (fun hle=>by
    refine ⟨by simp; omega,by unfold maxLen at hlem; show grownCap w (n + ys.length) (l.cap - off) e < 2 ^ 63; omega,hs,.inr ⟨cells,e,(0,0),heap_new w.drew _,hcs,NoFr.zero _,?_,.inl rfl⟩⟩
    refine RR.of (us:=olds ++ vs) hxl ?_ fun j u hj=>?_
    ·rw [ZY]
     exact ((o1.append s1).mono (hle1.trans (hle2.trans hle)))
    ·show (w.drew.alloc (.cells cells e)).cell? ⟨w.drew.heap.size,0 + j,none⟩ = some u
     rw [cell_new,Zl]
     have hlt:=(Zc.1 hj).1
     have : cells.toList[j]? = some u:=by
      simp only [cells,YG]
      rw [Ze (by simpa using hlt)]
      exact hj
     simpa using this)
  rw [hsetm] at M3 hle3
  refine wp_value (v:=.slice (some ⟨w.heap.size,0,none⟩) (n + ys.length) (grownCap w (n + ys.length) (l.cap - off) e)) (w':=w.drew.alloc (.cells cells e)) (hex _ _ (by rw [e1]; exact hr)) ?_
  refine ⟨_,h',_,M3,?_,hF.trans (hG.mono (fun _ q=>q.elim)),by cases o.dst <;> exact hd,(ht.mono (hle1.trans (hle2.trans hle3))).put ?_ o.dst,hgh.mono (hle1.trans (hle2.trans hle3))⟩
  ·rintro b ⟨p,ob,l',h3,h4,h5⟩
   rcases getElem?_append_one _ _ _ _ h3 with h3 | ⟨g5,e3⟩
   ·rcases getElem?_set_some h3 with ⟨e2,e3,_⟩ | ⟨hne,h3'⟩
    ·subst e3; simp [Ob.blk] at h5
    ·have hp:=(Zc.1 h3').1
     rw [Zj (by omega),Ze (by rw [M.len]; exact hp)] at h4
     exact hE b ⟨p,ob,l',h3',h4,h5⟩
   ·subst e3
    have hp : p = st.m.length:=by rw [g5]; simp
    subst hp
    rw [Zi (by simp [M.len])] at h4
    cases h4
    simp only [Ob.blk] at h5
    split at h5
    ·cases h5
    ·simp at h5; subst h5; exact .inr hF.size
  ·refine RV_ar (xs:=xs.drop off ++ ys) (lv:=true) (sz:=sz) (l:=⟨w.heap.size,grownCap w (n + ys.length) (l.cap - off) e⟩) ?_ ?_ (by rw [ZO,Yi,hn]; omega) (by rw [Yj]) (fun _=>by rw [Nat.zero_mul])
   ·show (st.m.set q .dead ++ [Ob.arr true sz (xs.drop off ++ ys)])[st.m.length]? = _
    rw [Zd (by simp)]
    simp
   ·show ((β ++ Za 1 _).set st.m.length _)[st.m.length]? = _
    rw [Zi (by simp [M.len])]
theorem s_appendO {t t' e ty : TypeId} {x y : Operand} {q off n sz : Nat} {ag : Bool} {zs : List V} {xs ys : List (List V)} (ho : o.op = .call { callee:=.builtin .append,args:=#[x,y],argTypes:=#[t,t'] }) (he : elt P t = some e) (hl : lay P e = some (sz,ag)) (hs : 0 < sz) (hz : zer P e = some zs) (hzs : zs.length = sz) (hq : seqT P t' = true)
  (hx : St.ev st.t x = .ar q off n) (hm : st.m[q]? = some (.arr true sz xs)) (hn : xs.length = off + n) (hsrc : Src P st.m sz (St.ev st.t y) ys) (hly : ∀ z ∈ ys,z.length = sz) (h1 : ∀ z ∈ ys.flatten,oneV st.m z = true) (hb1 : (n + ys.length) * P.bytesOf e ≤ 2 ^ 47) (hb2 : n + ys.length ≤ 2 ^ 62)
  (h : K ⟨putT st.t o.dst (.ar st.m.length off (n + ys.length)),st.m.set q .dead ++ [.arr true sz (xs ++ ys)],st.g⟩) (h' : K ⟨putT st.t o.dst (.ar st.m.length 0 (n + ys.length)),st.m.set q .dead ++ [.arr true sz (xs.drop off ++ ys)],st.g⟩) : OW P o st K:=by
 intro w0 E Zo gh a w Q ⟨β,M,hE,hF,hd,ht,hgh⟩
 have hvx:=ev_RV ht x
 rw [hx] at hvx
 exact append_coreO (ty:=ty) ho he hl hs hz hzs hq hm hn hly h1 hb1 hb2 h h' M hE hF hd ht hgh hvx (hsrc w Zo st.m β _ M (Agree.refl _) (ev_RV ht y))
end
end Go.Pm
end
section
namespace Go.Pm
open Go.RowKit
inductive EK where
 | int
 | str
 | bool
def eks (P : Program) : List Field → Nat → Option (List EK)
 | [],_=>some []
 | f :: fs, i => if f.offset = i ∧ f.name ≠ "_" then match P.underlying f.type with
   | some (.int _)=>(eks P fs (i + 1)).map (EK.int :: ·)
   | some .string=>(eks P fs (i + 1)).map (EK.str :: ·)
   | some .bool=>(eks P fs (i + 1)).map (EK.bool :: ·)
   | _=>none
   else none
def eqKs (P : Program) (t : TypeId) : Option (List EK):=match P.underlying t with
 | some (.struct fs)=>if P.stoodInHeld t = false ∧ P.eqGuardType P.depth t = false then eks P fs.toList 0 else none
 | _=>none
def eqV : List EK → List V → List V → Option Bool
 | [],[],[]=>some true
 | .int :: ks,.int k a :: xs,.int k' b :: ys=>if k = k' then (eqV ks xs ys).map fun r=>(a == b) && r else none
 | .str :: ks,.str s :: xs,.str t :: ys=>(eqV ks xs ys).map fun r=>(s.toList == t.toList) && r
 | .bool :: ks,.bool s :: xs,.bool t :: ys=>(eqV ks xs ys).map fun r=>(s == t) && r
 | _,_,_=>none
section
variable {P : Program} {c : Cx} {w : World}
theorem run_part1 {e : TypeId} {d : TypeDesc} (hu : P.underlying e = some d) (hd : isAggD d = false) {xs : Array Value} {off : Nat} {v : Value} (hx : xs[off]? = some v) : (part e xs off).run P w = .ok v w:=by
 cases d <;> simp [isAggD] at hd <;> simp [part,isAgg,run_und hu,hx]
theorem eqV_int_inv {ks : List EK} {xs ys : List V} {b : Bool} (h : eqV (.int :: ks) xs ys = some b) : ∃ k a a' xs' ys' b2,xs = .int k a :: xs' ∧ ys = .int k a' :: ys' ∧ eqV ks xs' ys' = some b2 ∧ b = ((a == a') && b2):=by
 cases xs with
 | nil=>simp [eqV] at h
 | cons x xs =>
  cases ys with
  | nil=>cases x <;> simp [eqV] at h
  | cons y ys =>
   cases x <;> (first | (simp [eqV] at h; done) | skip)
   cases y <;> (first | (simp [eqV] at h; done) | skip)
   simp only [eqV] at h
   split at h
   ·rename_i hk
    obtain ⟨b2,h1,h2⟩:=Zg.1 h
    subst hk
    exact ⟨_,_,_,_,_,b2,rfl,rfl,h1,h2.symm⟩
   ·cases h
theorem eqV_str_inv {ks : List EK} {xs ys : List V} {b : Bool} (h : eqV (.str :: ks) xs ys = some b) : ∃ a a' xs' ys' b2,xs = .str a :: xs' ∧ ys = .str a' :: ys' ∧ eqV ks xs' ys' = some b2 ∧ b = ((a.toList == a'.toList) && b2):=by
 cases xs with
 | nil=>simp [eqV] at h
 | cons x xs =>
  cases ys with
  | nil=>cases x <;> simp [eqV] at h
  | cons y ys =>
   cases x <;> (first | (simp [eqV] at h; done) | skip)
   cases y <;> (first | (simp [eqV] at h; done) | skip)
   simp only [eqV] at h
   obtain ⟨b2,h1,h2⟩:=Zg.1 h
   exact ⟨_,_,_,_,b2,rfl,rfl,h1,h2.symm⟩
theorem eqV_bool_inv {ks : List EK} {xs ys : List V} {b : Bool} (h : eqV (.bool :: ks) xs ys = some b) : ∃ a a' xs' ys' b2,xs = .bool a :: xs' ∧ ys = .bool a' :: ys' ∧ eqV ks xs' ys' = some b2 ∧ b = ((a == a') && b2):=by
 cases xs with
 | nil=>simp [eqV] at h
 | cons x xs =>
  cases ys with
  | nil=>cases x <;> simp [eqV] at h
  | cons y ys =>
   cases x <;> (first | (simp [eqV] at h; done) | skip)
   cases y <;> (first | (simp [eqV] at h; done) | skip)
   simp only [eqV] at h
   obtain ⟨b2,h1,h2⟩:=Zg.1 h
   exact ⟨_,_,_,_,b2,rfl,rfl,h1,h2.symm⟩
theorem eqV_sound : ∀ (fs : List Field) (ks : List EK) (i d : Nat) (xs ys : List V) (us vs : Array Value) (b : Bool),eks P fs i = some ks → eqV ks xs ys = some b → RVs c xs (us.toList.drop i) → RVs c ys (vs.toList.drop i) →
  (Op.eqFields (d + 1) us vs fs).run P w = .ok b w
 | [],ks,i,d,xs,ys,us,vs,b,hk,he,hx,hy=>by
   simp only [eks,Option.some.injEq] at hk
   subst hk
   have : b = true:=by
    cases xs <;> cases ys <;> simp [eqV] at he
    exact he
   subst this
   simp [Op.eqFields]
 | f :: fs,ks,i,d,xs,ys,us,vs,b,hk,he,hx,hy=>by
   unfold eks at hk
   split at hk
   ·rename_i hf
    obtain ⟨ho,hn⟩:=hf
    have step : ∀ (ks' : List EK) (x y : V) (xs' ys' : List V) (b1 b2 : Bool) (u v : Value),eks P fs (i + 1) = some ks' → xs = x :: xs' → ys = y :: ys' → eqV ks' xs' ys' = some b2 → b = (b1 && b2) →
      (∀ u v,RV c x u → RV c y v → (part f.type us f.offset).run P w = .ok u w → (part f.type vs f.offset).run P w = .ok v w → (Op.equalIn (d + 1) f.type u v).run P w = .ok b1 w) →
      (∀ (zs : Array Value) (z : Value),zs[f.offset]? = some z → (part f.type zs f.offset).run P w = .ok z w) →
      (Op.eqFields (d + 1) us vs (f :: fs)).run P w = .ok b w:=by
     intro ks' x y xs' ys' b1 b2 _ _ hks ex ey h2 hb heq hpart
     subst ex; subst ey
     obtain ⟨u,us',eu,hu,hus⟩:=hx
     obtain ⟨v,vs',ev,hv,hvs⟩:=hy
     have gu : us[f.offset]? = some u:=by
      have:=congrArg (fun l=>l[0]?) eu
      rw [ho]; simpa using this
     have gv : vs[f.offset]? = some v:=by
      have:=congrArg (fun l=>l[0]?) ev
      rw [ho]; simpa using this
     have du : us.toList.drop (i + 1) = us':=by
      have:=congrArg (fun l=>l.drop 1) eu
      simpa [List.drop_drop,Nat.add_comm] using this
     have dv : vs.toList.drop (i + 1) = vs':=by
      have:=congrArg (fun l=>l.drop 1) ev
      simpa [List.drop_drop,Nat.add_comm] using this
     have pu:=hpart us u gu
     have pv:=hpart vs v gv
     have e1:=heq u v hu hv pu pv
     have ih:=eqV_sound fs ks' (i + 1) d xs' ys' us vs b2 hks h2 (by rw [du]; exact hus) (by rw [dv]; exact hvs)
     unfold Op.eqFields
     rw [if_pos hn]
     simp only [Sem.run_bind,pu,pv,e1,Result.andThen_ok]
     subst hb
     cases b1
     ·simp
     ·simp [ih]
    split at hk
    ·rename_i k0 hu
     obtain ⟨ks',h1,rfl⟩:=Zg.1 hk
     obtain ⟨k,a,a',xs',ys',b2,ex,ey,h2,hb⟩:=eqV_int_inv he
     exact step ks' _ _ xs' ys' (a == a') b2 .nilFunc .nilFunc h1 ex ey h2 hb (fun u v hu' hv' _ _=>by
      have e1 : u = .int k a:=hu'
      have e2 : v = .int k a':=hv'
      rw [e1,e2]; exact run_equalIn_int w d f.type k k0 a a' hu) (fun zs z hz=>run_part1 hu rfl hz)
    ·rename_i hu
     obtain ⟨ks',h1,rfl⟩:=Zg.1 hk
     obtain ⟨a,a',xs',ys',b2,ex,ey,h2,hb⟩:=eqV_str_inv he
     exact step ks' _ _ xs' ys' (a.toList == a'.toList) b2 .nilFunc .nilFunc h1 ex ey h2 hb (fun u v hu' hv' _ _=>by
      have e1 : u = .string a:=hu'
      have e2 : v = .string a':=hv'
      rw [e1,e2]; exact run_equalIn_string w d f.type a a' hu) (fun zs z hz=>run_part1 hu rfl hz)
    ·rename_i hu
     obtain ⟨ks',h1,rfl⟩:=Zg.1 hk
     obtain ⟨a,a',xs',ys',b2,ex,ey,h2,hb⟩:=eqV_bool_inv he
     exact step ks' _ _ xs' ys' (a == a') b2 .nilFunc .nilFunc h1 ex ey h2 hb (fun u v hu' hv' _ _=>by
      have e1 : u = .bool a:=hu'
      have e2 : v = .bool a':=hv'
      rw [e1,e2]; exact run_equalIn_bool' w d f.type a a' hu) (fun zs z hz=>run_part1 hu rfl hz)
    ·cases hk
   ·cases hk
theorem run_eqAgg {t : TypeId} {ks : List EK} {xs ys : List V} {u v : Value} {b : Bool} (hk : eqKs P t = some ks) (he : eqV ks xs ys = some b) (hx : RV c (.agg xs) u) (hy : RV c (.agg ys) v) :
  ∃ us vs,u = .agg us ∧ v = .agg vs ∧ P.eqGuardType P.depth t = false ∧ (Op.equalIn 10000 t u v).run P w = .ok b w:=by
 obtain ⟨us,e1,h1⟩:=hx
 obtain ⟨vs,e2,h2⟩:=hy
 unfold eqKs at hk
 split at hk
 ·rename_i fs hu
  split at hk
  ·rename_i hp
   refine ⟨us,vs,e1,e2,hp.2,?_⟩
   have hf : P.fieldsOf t = fs:=by simp [Program.fieldsOf,hu]
   rw [e1,e2,show (10000 : Nat) = 9999 + 1 from rfl,run_equalIn_struct w 9999 t us vs (by rw [hf]; exact hu) hp.1,hf,show (9999 : Nat) = 9998 + 1 from rfl]
   exact eqV_sound fs.toList ks 0 9998 xs ys us vs b hk he (by simpa using h1) (by simpa using h2)
  ·cases hk
 ·cases hk
end
def eqAgg (P : Program) (op : BinOp) (t : TypeId) (x y : V) (K : V → Prop) : Prop:=match x with
 | .agg xs=>match y with
   | .agg ys=>match eqKs P t with
     | some ks=>match eqV ks xs ys with
       | some b=>match op with
         | .eql=>K (.bool b)
         | .neq=>K (.bool (!b))
         | _=>False
       | none=>False
     | none=>False
   | _=>False
 | _=>False
section
variable {P : Program} {o : Oper} {ev : Operand → V} {mT : List Ob} {base : Nat} {K : V → List Ob → Prop}
theorem q_eqAgg {op : BinOp} {t u : TypeId} {x y : Operand} (ho : o.op = .binOp op t x y u) (h : eqAgg P op t (ev x) (ev y) (fun r=>K r [])) : Goal P o ev mT base K:=by
 unfold eqAgg at h
 split at h <;> try exact h.elim
 rename_i xs hx'
 split at h <;> try exact h.elim
 rename_i ys hy'
 split at h <;> try exact h.elim
 rename_i ks hk
 split at h <;> try exact h.elim
 rename_i b hb
 have key : ∀ (r : Bool),(op = .eql ∧ r = b ∨ op = .neq ∧ r = !b) → K (.bool r) [] → Goal P o ev mT base K:=by
  intro r hop hK
  refine ⟨_,_,QS.value fun w Zo m β a M A hx=>?_,hK⟩
  have hv1:=hx x (by rw [ho]; simp [Op.operands])
  have hv2:=hx y (by rw [ho]; simp [Op.operands])
  rw [hx'] at hv1
  rw [hy'] at hv2
  obtain ⟨us,vs,e1,e2,hg,he⟩:=run_eqAgg (w:=w) hk hb hv1 hv2
  refine ⟨.bool r,?_,rfl⟩
  simp only [execOp,ho]
  rw [e1,e2] at he ⊢
  simp only [Sem.run_bind,run_eqGuard_agg w op t x y us vs hg,Result.andThen_ok]
  rcases hop with ⟨rfl,rfl⟩ | ⟨rfl,rfl⟩
  ·rw [run_eql_struct,he]; rfl
  ·rw [run_neq_struct,he]; rfl
 split at h
 ·exact key b (.inl ⟨rfl,rfl⟩) h
 ·exact key (!b) (.inr ⟨rfl,rfl⟩) h
 ·exact h.elim
end
def zr1 (P : Program) (t : TypeId) : Option V:=match P.info? t with
 | some i=>match i.zero with
   | some (.agg _)=>none
   | some z=>some (ofVal1 z)
   | none=>none
 | none=>none
def mpT (P : Program) (t : TypeId) : Option (IntKind × V):=match P.underlying t with
 | some (.map kt et)=>match P.underlying kt with
   | some (.int k)=>(zr1 P et).map fun z=>(k,z)
   | _=>none
 | _=>none
def mpA (P : Program) (t : TypeId) : Option (List EK × V):=match P.underlying t with
 | some (.map kt et)=>match eqKs P kt with
   | some ks=>(zr1 P et).map fun z=>(ks,z)
   | _=>none
 | _=>none
def findI (k : Int) : List Int → Option Nat
 | []=>none
 | n :: ns=>if k == n then some 0 else (findI k ns).map (· + 1)
def findA (ks : List EK) (k : List V) : List (List V) → Option (Option Nat)
 | []=>some none
 | n :: ns=>match eqV ks k n with
   | some true=>some (some 0)
   | some false=>(findA ks k ns).map fun r=>r.map (· + 1)
   | none=>none
def KeyAt (P : Program) (t : TypeId) (ks : List V) (y : V) (z : V) (r : Option Nat) : Prop :=
 (∃ kd k ns,mpT P t = some (kd,z) ∧ y = .int kd k ∧ ks = ns.map (V.int kd) ∧ r = findI k ns) ∨
 (∃ es k ns,mpA P t = some (es,z) ∧ y = .agg k ∧ ks = ns.map V.agg ∧ findA es k ns = some r ∧ (eqV es k k).isSome = true)
section
variable {P : Program} {c : Cx} {w : World}
theorem findNow_int {kd kd' : IntKind} {key : Int} : ∀ (es : List MapEntry) (ns : List Int) (i : Nat),es.map (·.key) = ns.map (Value.int kd') → Instr.findNow (.int kd) (.int kd' key) es i = some ((findI key ns).bind fun j=>es[j]?.map fun e=>(i + j,e.val))
 | [],ns,i,h=>by
   have : ns = []:=by cases ns <;> simp_all
   subst this
   rfl
 | e :: es,[],i,h=>by simp at h
 | e :: es,n :: ns,i,h=>by
   simp only [ZP,List.cons.injEq] at h
   unfold Instr.findNow
   rw [h.1]
   simp only [Instr.sameNow,if_true,findI]
   by_cases hk : key = n
   ·subst hk
    simp
   ·have hb : (key == n) = false:=beq_eq_false_iff_ne.2 hk
    rw [hb]
    simp only [findNow_int es ns (i + 1) h.2,ZZ,if_false]
    cases findI key ns with
    | none=>rfl
    | some j =>
     simp only [ZC,ZD,Ya]
     rw [show i + 1 + j = i + (j + 1) by omega]
theorem run_findKey_int {t : TypeId} {kd kd' : IntKind} {key : Int} {es : List MapEntry} {ns : List Int} (hu : P.underlying t = some (.int kd)) (h : es.map (·.key) = ns.map (Value.int kd')) :
  (Instr.findKey t (.int kd' key) es).run P w = .ok ((findI key ns).bind fun j=>es[j]?.map fun e=>(j,e.val)) w:=by
 unfold Instr.findKey
 rw [Sem.run_bind,run_und hu,Result.andThen_ok,findNow_int es ns 0 h]
 simp
theorem run_findAsking {t : TypeId} {eks : List EK} {key : List V} {kv : Value} (hk : eqKs P t = some eks) (hkv : RV c (.agg key) kv) : ∀ (es : List MapEntry) (ns : List (List V)) (r : Option Nat) (i : Nat),RVs c (ns.map V.agg) (es.map (·.key)) → findA eks key ns = some r →
  (Instr.findAsking t kv es i).run P w = .ok (r.bind fun j=>es[j]?.map fun e=>(i + j,e.val)) w
 | [],ns,r,i,h,hr=>by
   have : ns = []:=by
    have:=h.length
    simp at this
    exact Zn this.symm
   subst this
   simp only [findA,Option.some.injEq] at hr
   subst hr
   simp [Instr.findAsking]
 | e :: es,[],r,i,h,hr=>by
   have:=h.length
   simp at this
 | e :: es,n :: ns,r,i,⟨u,us',eu,h1,h2⟩,hr=>by
   simp only [ZP,List.cons.injEq] at eu
   obtain ⟨eu1,eu2⟩:=eu
   subst eu1; subst eu2
   unfold findA at hr
   unfold Instr.findAsking
   cases hb : eqV eks key n with
   | none=>rw [hb] at hr; cases hr
   | some b =>
    rw [hb] at hr
    obtain ⟨xs,ys,_,_,_,he⟩:=run_eqAgg (w:=w) hk hb hkv h1
    have he' : (Op.equal t kv e.key).run P w = .ok b w:=he
    rw [Sem.run_bind,he',Result.andThen_ok]
    cases b with
    | true =>
     simp only [Option.some.injEq] at hr
     subst hr
     simp
    | false =>
     obtain ⟨r',h3,rfl⟩:=Zg.1 hr
     simp only [ZZ,if_false]
     rw [run_findAsking hk hkv es ns r' (i + 1) h2 h3]
     congr 1
     cases r' with
     | none=>rfl
     | some j =>
      simp only [ZC,ZD,Ya]
      rw [show i + 1 + j = i + (j + 1) by omega]
theorem run_findKey_agg {t : TypeId} {eks : List EK} {key : List V} {kv : Value} {es : List MapEntry} {ns : List (List V)} {r : Option Nat} (hk : eqKs P t = some eks) (hkv : RV c (.agg key) kv) (h : RVs c (ns.map V.agg) (es.map (·.key))) (hr : findA eks key ns = some r) :
  (Instr.findKey t kv es).run P w = .ok (r.bind fun j=>es[j]?.map fun e=>(j,e.val)) w:=by
 obtain ⟨fs,hu⟩ : ∃ fs,P.underlying t = some (.struct fs):=by
  unfold eqKs at hk
  split at hk
  ·rename_i fs hu; exact ⟨fs,hu⟩
  ·cases hk
 have h2:=run_findAsking (P:=P) (w:=w) hk hkv es ns r 0 h hr
 unfold Instr.findKey
 rw [Sem.run_bind,run_und hu,Result.andThen_ok]
 have hn : Instr.findNow (.struct fs) kv es 0 = none ∨ (es = [] ∧ Instr.findNow (.struct fs) kv es 0 = some none):=by
  cases es with
  | nil=>exact .inr ⟨rfl,rfl⟩
  | cons e es=>left; unfold Instr.findNow; rfl
 rcases hn with hn | ⟨rfl,hn⟩
 ·rw [hn]
  simpa using h2
 ·rw [hn]
  have : ns = []:=by
   have:=h.length
   simp at this
   exact Zn this.symm
  subst this
  simp only [findA,Option.some.injEq] at hr
  subst hr
  simp
theorem zr1_run {t : TypeId} {z : V} (h : zr1 P t = some z) : ∃ v,(zeroValue t).run P w = .ok v w ∧ RV c z v:=by
 unfold zr1 at h
 split at h
 ·rename_i i hi
  split at h
  ·cases h
  ·rename_i v hz hv
   simp only [Option.some.injEq] at h
   subst h
   exact ⟨v,run_zero hi hv,RV_ofVal1 c v⟩
  ·cases h
 ·cases h
theorem checkKey_struct {b : Bool} {d : Nat} {t : TypeId} {fs : Array Field} {ks : List EK} (hu : P.underlying t = some (.struct fs)) (hk : eks P fs.toList 0 = some ks) {xs : List V} {v : Value} (hl : xs.length = ks.length) (hv : RV c (.agg xs) v) : (Instr.checkKey b (d + 2) t v).run P w = .ok () w:=by
 obtain ⟨us,rfl,hus⟩:=hv
 have hlen:=hus.length
 unfold Instr.checkKey
 simp only [Sem.run_bind,run_und hu,Result.andThen_ok]
 rw [← Array.forIn_toList]
 have key : ∀ (fs : List Field) (ks : List EK) (i : Nat),eks P fs i = some ks → i + ks.length = us.size → (forIn (m:=Sem) fs PUnit.unit fun f __s =>
      if f.name ≠ "_" then (do
       let x ← part f.type us f.offset
       Instr.checkKey b (d + 1) f.type x
       pure (ForInStep.yield PUnit.unit))
      else pure (ForInStep.yield PUnit.unit)).run P w = .ok PUnit.unit w:=by
  intro fs
  induction fs with
  | nil=>intro ks i _ _; simp
  | cons f fs ih =>
   intro ks i hk hl
   unfold eks at hk
   split at hk
   ·rename_i hf
    have go : ∀ (ks' : List EK) (dd : TypeDesc),P.underlying f.type = some dd → isAggD dd = false → (∀ n v,(Instr.checkKey b (n + 1) f.type v).run P w = .ok () w) → eks P fs (i + 1) = some ks' → i + 1 + ks'.length = us.size → (forIn (m:=Sem) (f :: fs) PUnit.unit fun f __s =>
      if f.name ≠ "_" then (do
       let x ← part f.type us f.offset
       Instr.checkKey b (d + 1) f.type x
       pure (ForInStep.yield PUnit.unit))
      else pure (ForInStep.yield PUnit.unit)).run P w = .ok PUnit.unit w:=by
     intro ks' dd hu hag hck hks hll
     have hiu : i < us.size:=by omega
     have hp : (part f.type us f.offset).run P w = .ok us[i] w:=run_part1 hu hag (by rw [hf.1]; simp [hiu])
     have:=ih ks' (i + 1) hks hll
     rw [List.forIn_cons]
     simp only [if_pos hf.2,Sem.run_bind,hp,Result.andThen_ok,hck,Sem.run_pure]
     exact this
    split at hk
    ·rename_i k hu
     obtain ⟨ks',h1,rfl⟩:=Zg.1 hk
     exact go ks' _ hu rfl (fun n v=>by unfold Instr.checkKey; simp [run_und hu]) h1 (by simp at hl; omega)
    ·rename_i hu
     obtain ⟨ks',h1,rfl⟩:=Zg.1 hk
     exact go ks' _ hu rfl (fun n v=>by unfold Instr.checkKey; simp [run_und hu]) h1 (by simp at hl; omega)
    ·rename_i hu
     obtain ⟨ks',h1,rfl⟩:=Zg.1 hk
     exact go ks' _ hu rfl (fun n v=>by unfold Instr.checkKey; simp [run_und hu]) h1 (by simp at hl; omega)
    ·cases hk
   ·cases hk
 rw [key fs.toList ks 0 hk (by rw [← hl,← hlen]; simp)]
 simp
def plainV : V → Bool
 | .int _ _=>true
 | .str _=>true
 | .bool _=>true
 | _=>false
theorem eqV_plain : ∀ {es : List EK} {xs ys : List V} {b : Bool},eqV es xs ys = some b → xs.length = es.length ∧ ∀ x ∈ xs,plainV x = true
 | [],[],[],b,h=>⟨rfl,fun x hx=>by cases hx⟩
 | [],x :: xs,ys,b,h=>by simp [eqV] at h
 | [],[],y :: ys,b,h=>by simp [eqV] at h
 | e :: es,[],ys,b,h=>by cases e <;> simp [eqV] at h
 | e :: es,x :: xs,[],b,h=>by cases e <;> cases x <;> simp [eqV] at h
 | e :: es,x :: xs,y :: ys,b,h=>by
   have key : ∃ b',eqV es xs ys = some b' ∧ plainV x = true:=by
    cases e
    ·obtain ⟨k,a,a',xs',ys',b2,ex,ey,h2,_⟩:=eqV_int_inv h
     cases ex; cases ey; exact ⟨b2,h2,rfl⟩
    ·obtain ⟨a,a',xs',ys',b2,ex,ey,h2,_⟩:=eqV_str_inv h
     cases ex; cases ey; exact ⟨b2,h2,rfl⟩
    ·obtain ⟨a,a',xs',ys',b2,ex,ey,h2,_⟩:=eqV_bool_inv h
     cases ex; cases ey; exact ⟨b2,h2,rfl⟩
   obtain ⟨b',h1,h2⟩:=key
   obtain ⟨k1,k2⟩:=eqV_plain h1
   refine ⟨by simp [k1],fun z hz=>?_⟩
   rcases ZI.1 hz with rfl | hz
   ·exact h2
   ·exact k2 z hz
theorem plain_same : ∀ {xs : List V} {us vs : List Value},(∀ x ∈ xs,plainV x = true) → RVs c xs us → RVs c xs vs → us = vs ∧ ∀ n,((us.zip us).all fun (x,y)=>Instr.sameBits n x y) = true
 | [],us,vs,_,h1,h2=>by
   rw [show us = [] from h1,show vs = [] from h2]
   exact ⟨rfl,fun n=>rfl⟩
 | x :: xs,us,vs,hp,⟨u,us',e,h1,h2⟩,⟨v,vs',e',k1,k2⟩=>by
   obtain ⟨g1,g2⟩:=plain_same (fun y hy=>hp y (ZE _ hy)) h2 k2
   have hx:=hp x Zx
   subst e; subst e'
   have : u = v ∧ ∀ n,Instr.sameBits n u u = true:=by
    cases x <;> simp [plainV] at hx
    ·have h1 : u = _:=h1
     have k1 : v = _:=k1
     subst h1; subst k1
     exact ⟨rfl,fun n=>by cases n <;> simp [Instr.sameBits,beq_toListBytes]⟩
    ·have h1 : u = _:=h1
     have k1 : v = _:=k1
     subst h1; subst k1
     exact ⟨rfl,fun n=>by cases n <;> simp [Instr.sameBits,beq_toListBytes]⟩
    ·have h1 : u = _:=h1
     have k1 : v = _:=k1
     subst h1; subst k1
     exact ⟨rfl,fun n=>by cases n <;> simp [Instr.sameBits,beq_toListBytes]⟩
   obtain ⟨rfl,hb⟩:=this
   refine ⟨by rw [g1],fun n=>?_⟩
   rw [List.zip_cons_cons,List.all_cons,g2 n,Bool.and_true]
   exact hb n
theorem run_key {t : TypeId} {ks : List V} {y z : V} {r : Option Nat} {kv : Value} {es : List MapEntry} (h : KeyAt P t ks y z r) (hk : RVs c ks (es.map (·.key))) (hy : RV c y kv) :
  ∃ kt et,P.underlying t = some (.map kt et) ∧ (∀ b,(Instr.checkKey b 10000 kt kv).run P w = .ok () w) ∧ (Instr.findKey kt kv es).run P w = .ok (r.bind fun j=>es[j]?.map fun e=>(j,e.val)) w ∧ (∃ zv,(zeroValue et).run P w = .ok zv w ∧ RV c z zv):=by
 rcases h with ⟨kd,k,ns,hm,rfl,rfl,rfl⟩ | ⟨eks',k,ns,hm,rfl,rfl,hf,hpl⟩
 ·unfold mpT at hm
  split at hm
  ·rename_i kt et ht
   split at hm
   ·rename_i kd' hkt
    obtain ⟨z',hz,e⟩:=Zg.1 hm
    obtain ⟨rfl,rfl⟩:=Prod.mk.inj e
    have hy : kv = .int kd' k:=hy
    subst hy
    refine ⟨kt,et,ht,fun b=>?_,run_findKey_int hkt (RVs_ints hk),zr1_run hz⟩
    show (Instr.checkKey b (9999 + 1) kt _).run P w = _
    unfold Instr.checkKey
    simp [run_und hkt]
   ·cases hm
  ·cases hm
 ·unfold mpA at hm
  split at hm
  ·rename_i kt et ht
   split at hm
   ·rename_i ks' hks
    obtain ⟨z',hz,e⟩:=Zg.1 hm
    obtain ⟨rfl,rfl⟩:=Prod.mk.inj e
    refine ⟨kt,et,ht,fun b=>?_,run_findKey_agg hks hy hk hf,zr1_run hz⟩
    obtain ⟨b0,hb0⟩:=YH.1 hpl
    have hlen:=(eqV_plain hb0).1
    unfold eqKs at hks
    split at hks
    ·rename_i fs hu
     split at hks
     ·exact checkKey_struct (d:=9998) hu hks hlen hy
     ·cases hks
    ·cases hks
   ·cases hm
  ·cases hm
end
def mpAt (m : List Ob) : V → Option (List V × List V)
 | .map q=>match m[q]? with
   | some (.mp _ ks vs)=>some (ks,vs)
   | _=>none
 | .fmap ks vs=>some (ks,vs)
 | _=>none
def lkVC (P : Program) (t : TypeId) (m : List Ob) (x y : V) (ok : Bool) (K : V → Prop) : Prop :=
 ∃ ks vs z r,mpAt m x = some (ks,vs) ∧ KeyAt P t ks y z r ∧ (∀ j,r = some j → j < vs.length) ∧
  K (if ok then .tup [(r.map fun j=>vs.getD j .junk).getD z,.bool r.isSome] else (r.map fun j=>vs.getD j .junk).getD z)
section
variable {P : Program} {o : Oper} {ev : Operand → V} {mT : List Ob} {base : Nat} {K : V → List Ob → Prop}
theorem mpAt_at {w : World} {Zo : Nat → Prop} {m : List Ob} {β : List Lc} (M : Mem w Zo m β) (A : Agree mT m) {x : V} {v : Value} {ks vs : List V} (hx : mpAt mT x = some (ks,vs)) (hv : RV (cx w Zo m β) x v) :
  ∃ b es n,v = .map (some b) ∧ w.heap[b]? = some (.map es n) ∧ RVs (cx w Zo m β) ks (es.toList.map (·.key)) ∧ RVs (cx w Zo m β) vs (es.toList.map (·.val)):=by
 unfold mpAt at hx
 split at hx
 ·split at hx
  ·rename_i hT
   simp only [Option.some.injEq,Prod.mk.injEq] at hx
   obtain ⟨rfl,rfl⟩:=hx
   obtain ⟨hm,l,hl,⟨es,n,h1,h2,h3,_,h4⟩,e⟩:=at_map M A hT hv
   exact ⟨l.b,es,n,e,h1,h2,h3⟩
  ·cases hx
 ·simp only [Option.some.injEq,Prod.mk.injEq] at hx
  obtain ⟨rfl,rfl⟩:=hx
  obtain ⟨b,es,n,e,_,h1,h2,h3⟩:=hv
  exact ⟨b,es,n,e,h1,h2,h3⟩
 ·cases hx
theorem run_getMap {w : World} {b : Nat} {es : Array MapEntry} {n : Nat} (h : w.heap[b]? = some (.map es n)) : (getObj b).run P w = .ok (.map es n) w:=by
 simp [getObj,Sem.run,h]
theorem q_lookup {t : TypeId} {x y : Operand} {ok : Bool} (ho : o.op = .lookup t x y ok) (h : lkVC P t mT (ev x) (ev y) ok (fun r=>K r [])) : Goal P o ev mT base K:=by
 obtain ⟨ks,vs,z,r,hx',hkey,hlt,hK⟩:=h
 refine ⟨_,_,QS.value fun w Zo m β a M A hx=>?_,hK⟩
 have hvx:=hx x (by rw [ho]; simp [Op.operands])
 have hvy:=hx y (by rw [ho]; simp [Op.operands])
 obtain ⟨b,es,n,e,h1,h2,h3⟩:=mpAt_at M A hx' hvx
 obtain ⟨kt,et,ht,hck,hfk,zv,hz,hzv⟩:=run_key (P:=P) (w:=w) hkey h2 hvy
 have hval : ∃ u,(∀ j,r = some j → ∃ e',es.toList[j]? = some e' ∧ e'.val = u ∧ RV (cx w Zo m β) (vs.getD j .junk) u) ∧ (r = none → u = zv):=by
  cases r with
  | none=>exact ⟨zv,(fun j h=>by cases h),fun _=>rfl⟩
  | some j =>
   have hj:=hlt j rfl
   obtain ⟨u,g1,g2⟩:=h3.get j (Zy hj)
   rw [Zf] at g1
   obtain ⟨e',g3,g4⟩:=Zg.1 g1
   refine ⟨u,fun j' h=>?_,(fun h=>by cases h)⟩
   cases h
   refine ⟨e',g3,g4,?_⟩
   rw [Zm,Zy hj]
   exact g2
 obtain ⟨u,hu1,hu2⟩:=hval
 have hexec : (Instr.lookup t (a.eval x) (a.eval y) ok).run P w = .ok (if ok then .tuple #[u,.bool r.isSome] else u) w:=by
  unfold Instr.lookup
  rw [e]
  simp only [Sem.run_bind,run_und ht,Result.andThen_ok,run_getMap h1,hck,hfk]
  cases r with
  | none =>
   have:=hu2 rfl
   subst this
   simp [hck,hfk,hz]
  | some j =>
   obtain ⟨e',g1,g2,_⟩:=hu1 j rfl
   subst g2
   simp only [ZD,g1,ZC] at hfk
   simp [hck,hfk]
 refine ⟨_,by simp only [execOp,ho]; rw [Sem.run_bind,hexec]; rfl,?_⟩
 have hrv : RV (cx w Zo m β) ((r.map fun j=>vs.getD j .junk).getD z) u:=by
  cases r with
  | none=>rw [hu2 rfl]; exact hzv
  | some j=>exact (hu1 j rfl).choose_spec.2.2
 cases ok with
 | false=>exact hrv
 | true=>exact ⟨_,rfl,u,_,rfl,hrv,.bool r.isSome,_,rfl,rfl,rfl⟩
end
theorem Born.push {es : Array MapEntry} {n : Nat} {e0 : MapEntry} (h : Born es n) (h0 : e0.born = n) : Born (es.push e0) (n + 1):=by
 refine ⟨by rw [Array.size_push,h.1],fun i e hi=>?_⟩
 rw [Array.getElem?_push] at hi
 split at hi
 ·rename_i hie
  injection hi with hi
  subst hi
  rw [h0,h.1,hie]
 ·exact h.2 i e hi
theorem Born.modify {es : Array MapEntry} {n j : Nat} {f : MapEntry → MapEntry} (h : Born es n) (hf : ∀ e,(f e).born = e.born) : Born (es.modify j f) n:=by
 refine ⟨by rw [Array.size_modify,h.1],fun i e hi=>?_⟩
 rw [Yk] at hi
 split at hi
 ·obtain ⟨e0,h1,h2⟩:=Zg.1 hi
  rw [← h2,hf]; exact h.2 i e0 h1
 ·exact h.2 i e hi
def muVC (P : Program) (t : TypeId) (m : List Ob) (x y z : V) (K : List Ob → Prop) : Prop :=
 ∃ q ks vs z0 r,x = .map q ∧ m[q]? = some (.mp true ks vs) ∧ KeyAt P t ks y z0 r ∧ (∀ j,r = some j → ks[j]? = some y) ∧
  K (m.set q (match r with
   | some j=>.mp true ks (vs.set j z)
   | none=>.mp true (ks ++ [y]) (vs ++ [z])))
theorem RVs.one1 {c : Cx} {x : V} {u : Value} (h : RV c x u) : RVs c [x] [u]:=⟨u,[],rfl,h,rfl⟩
theorem set_same' {α : Type} {l : List α} {i : Nat} {x : α} (h : l[i]? = some x) : l.set i x = l:=by
 apply Yb
 intro j
 rw [ZQ]
 split
 ·rename_i e; subst e
  rw [if_pos (Zc.1 h).1,h]
 ·rfl
theorem run_stays {P : Program} {c : Cx} {w : World} {t : TypeId} {ks : List V} {y z : V} {r : Option Nat} {u v : Value} (h : KeyAt P t ks y z r) (hu : RV c y u) (hv : RV c y v) : (Instr.keyThatStays u v).run P w = .ok v w:=by
 unfold Instr.keyThatStays
 have : Instr.sameBits 10000 u v = true:=by
  rcases h with ⟨kd,k,ns,hm,rfl,rfl,rfl⟩ | ⟨eks',k,ns,hm,rfl,rfl,hf,hpl⟩
  ·have hu : u = _:=hu
   have hv : v = _:=hv
   subst hu; subst hv
   show Instr.sameBits (9999 + 1) _ _ = true
   simp [Instr.sameBits]
  ·obtain ⟨b0,hb0⟩:=YH.1 hpl
   obtain ⟨us,rfl,h1⟩:=hu
   obtain ⟨vs,rfl,h2⟩:=hv
   obtain ⟨g1,g2⟩:=plain_same (eqV_plain hb0).2 h1 h2
   have : us = vs:=by cases us; cases vs; simp_all
   subst this
   show Instr.sameBits (9999 + 1) _ _ = true
   simp [Instr.sameBits,g2]
 rw [this]
 simp
def Keep (w w' : World) : Prop:=∀ b : Nat,w'.heap[b]? = w.heap[b]? ∨ ((∃ es n,w.heap[b]? = some (Obj.map es n)) ∧ ∃ es n,w'.heap[b]? = some (Obj.map es n))
def OWK (P : Program) (o : Oper) (st : St) (K : St → Prop) : Prop:=∀ (w0 : World) (E Zo : Nat → Prop) (gh : List Value) (a : Act) (w : World) (Q : Exit → Act → World → Prop),Rel w0 E Zo gh st a w → o.wp P a w (fun a' w'=>Keep w w' ∧ ∃ st',K st' ∧ Rel w0 E Zo gh st' a' w') Q
theorem OWK.ow {P : Program} {o : Oper} {st : St} {K : St → Prop} (h : OWK P o st K) : OW P o st K:=fun w0 E Zo gh a w Q r=>Oper.wp_mono (fun a w h=>h.2) (h w0 E Zo gh a w Q r)
theorem keep_map {w : World} {b : Nat} {es : Array MapEntry} {n : Nat} (h : w.heap[b]? = some (Obj.map es n)) (es' : Array MapEntry) (n' : Nat) : Keep w { w with heap:=w.heap.setIfInBounds b (Obj.map es' n') }:=fun c=>by
 by_cases e : b = c
 ·subst e
  have hlt:=(Zr.1 h).1
  exact .inr ⟨⟨_,_,h⟩,es',n',by simp [ZF,hlt]⟩
 ·exact .inl (by simp [ZF,e])
section
variable {P : Program} {o : Oper} {st : St} {K : St → Prop}
theorem s_mapUpdate {t : TypeId} {x y z : Operand} (ho : o.op = .mapUpdate t x y z ∨ o.op = .insert t x y z) (h : muVC P t st.m (St.ev st.t x) (St.ev st.t y) (St.ev st.t z) (fun m'=>K ⟨putT st.t o.dst .junk,m',st.g⟩)) : OW P o st K:=by
 obtain ⟨q,ks,vs,z0,r,hx,hm,hkey,hsame,hK⟩:=h
 intro w0 E Zo gh a w Q ⟨β,M,hE,hF,hd,ht,hgh⟩
 have hvx:=ev_RV ht x
 have hvy:=ev_RV ht y
 have hvz:=ev_RV ht z
 rw [hx] at hvx
 obtain ⟨_,l,hβ,hOK,e1⟩:=at_map M (Agree.refl _) hm hvx
 obtain ⟨es,n,k1,k2,k3,kb,_⟩:=hOK
 have k1 : w.heap[l.b]? = some (.map es n):=k1
 obtain ⟨kt,et,hmt,hck,hfk,_⟩:=run_key (P:=P) (w:=w) hkey k2 hvy
 have hlb : l.b < w.heap.size:=(Zr.1 k1).1
 have hset : ∀ ob,(setObj l.b ob).run P w = .ok () { w with heap:=w.heap.setIfInBounds l.b ob }:=fun ob=>by
  simp [setObj,Sem.run,k1]
 have hlaid : ∃ es' n',(Instr.mapUpdate t (a.eval x) (a.eval y) (a.eval z)).run P w = .ok () { w with heap:=w.heap.setIfInBounds l.b (.map es' n') } ∧
   RVs (cx w Zo st.m β) (match r with | some j=>ks | none=>ks ++ [St.ev st.t y]) (es'.toList.map (·.key)) ∧ RVs (cx w Zo st.m β) (match r with | some j=>vs.set j (St.ev st.t z) | none=>vs ++ [St.ev st.t z]) (es'.toList.map (·.val)) ∧ Born es' n':=by
  cases r with
  | none =>
   refine ⟨es.push { key:=a.eval y,val:=a.eval z,born:=n },n + 1,?_,?_,?_,kb.push rfl⟩
   ·unfold Instr.mapUpdate
    rw [e1]
    simp only [Sem.run_bind,run_und hmt,Result.andThen_ok,run_getMap k1,hck,hfk,Option.bind_none]
    exact hset _
   ·simp only [Yl,Ym,ZP,Yn]
    exact k2.append (RVs.one1 hvy)
   ·simp only [Yl,Ym,ZP,Yn]
    exact k3.append (RVs.one1 hvz)
  | some j =>
   have hj:=hsame j rfl
   obtain ⟨u,g1,g2⟩:=k2.get j hj
   rw [Zf] at g1
   obtain ⟨e',g3,g4⟩:=Zg.1 g1
   have g5 : es[j]? = some e':=by simpa using g3
   have hst:=run_stays (P:=P) (w:=w) hkey g2 hvy
   have hmod : ∀ (f : MapEntry → Value) (v : Value) (k : MapEntry → MapEntry),f (k e') = v → (es.modify j k).toList.map f = (es.toList.map f).set j v:=by
    intro f v k hv
    apply Yb
    intro i
    rw [Zf,Zs,Yk,ZQ,Zf,Zs]
    by_cases hji : j = i
    ·subst hji
     have hlt : j < es.toList.length:=(Zc.1 g3).1
     simp only [if_true,g5,ZC,Zz,hlt,hv]
    ·simp [hji]
   refine ⟨es.modify j fun e=>{ e with key:=a.eval y,val:=a.eval z },n,?_,?_,?_,kb.modify fun _=>rfl⟩
   ·unfold Instr.mapUpdate
    rw [e1]
    simp only [Sem.run_bind,run_und hmt,Result.andThen_ok,run_getMap k1,hck,hfk,ZD,g3,ZC,g5,Yz,g4,hst]
    exact hset _
   ·rw [hmod (·.key) (a.eval y) _ rfl]
    have:=k2.set j hvy
    rwa [set_same' hj] at this
   ·rw [hmod (·.val) (a.eval z) _ rfl]
    exact k3.set j hvz
 obtain ⟨es',n',hrun,hk',hv',hb2⟩:=hlaid
 have hT:=M.turn (w':={ w with heap:=w.heap.setIfInBounds l.b (.map es' n') }) (ob':=(match r with | some j=>.mp true ks (vs.set j (St.ev st.t z)) | none=>.mp true (ks ++ [St.ev st.t y]) (vs ++ [St.ev st.t z]))) hm hβ
  (by cases r <;> exact .inr ⟨_,_,_,_,rfl,rfl,rfl⟩) (fun b hb=>by cases r <;> exact hb) (by simp)
  (fun b hlt hne=>by
   have : l.b ≠ b:=fun e=>hne (by rw [← e]; rfl)
   simp [ZF,this])
  (fun hle _=>by
   have hb' : ({ w with heap:=w.heap.setIfInBounds l.b (Obj.map es' n') } : World).heap[l.b]? = some (.map es' n'):=by simp [ZF,hlb]
   cases r with
   | none=>exact ⟨es',n',hb',hk'.mono hle,hv'.mono hle,hb2,.inl rfl⟩
   | some j=>exact ⟨es',n',hb',hk'.mono hle,hv'.mono hle,hb2,.inl rfl⟩)
 obtain ⟨M',hle⟩:=hT
 have hexec : (execOp a.eval o).run P w = .ok .skip { w with heap:=w.heap.setIfInBounds l.b (.map es' n') }:=by
  rcases ho with ho | ho <;> simp only [execOp,ho,Sem.run_bind,hrun,Result.andThen_ok] <;> rfl
 unfold Oper.wp
 rw [hexec,Oper.upon_skip]
 have hl:=hE _ ⟨q,_,l,hm,hβ,rfl⟩
 refine ⟨_,hK,β,M',?_,⟨hF.os,hF.tape,hF.output,by simpa using hF.size,fun b hb hnE=>?_,hF.drawn⟩,by cases o.dst <;> exact hd,(ht.mono hle).put (x:=.junk) trivial o.dst,hgh.mono hle⟩
 ·rintro b ⟨p,ob,l',h3,h4,h5⟩
  rcases getElem?_set_some h3 with ⟨e2,e3,_⟩ | ⟨hne,h3⟩
  ·subst e2; subst e3
   rw [hβ] at h4; cases h4
   refine hE b ⟨_,_,l,hm,hβ,?_⟩
   cases r <;> exact h5
  ·exact hE b ⟨p,ob,l',h3,h4,h5⟩
 ·have hne : l.b ≠ b:=by
   intro e
   subst e
   rcases hl with hl | hl
   ·exact hnE hl
   ·omega
  rw [← hF.block b hb hnE]
  simp [ZF,hne]
def meVC (P : Program) (t : TypeId) (m : List Ob) (x y : V) (K : V → List Ob → Prop) : Prop :=
 ∃ q ks vs z0 r,x = .map q ∧ m[q]? = some (.mp true ks vs) ∧ KeyAt P t ks y z0 r ∧ (∀ j,r = some j → ks[j]? = some y) ∧
  (match r with
   | some j=>K (.tup [vs.getD j .junk,.int .i64 j]) m
   | none=>K (.tup [z0,.int .i64 ks.length]) (m.set q (.mp true (ks ++ [y]) (vs ++ [z0]))))
theorem map_turn {st : St} {w0 w : World} {E Zo : Nat → Prop} {gh : List Value} {a : Act} {β : List Lc} {q : Nat} {ks vs ks' vs' : List V} {l : Lc} {es' : Array MapEntry} {n' : Nat} (M : Mem w Zo st.m β) (hE : ∀ b,liveAt st.m β b → E b ∨ w0.heap.size ≤ b) (hF : Frame E w0 w)
  (ht : RVs (cx w Zo st.m β) st.t a.tmps.toList) (hgh : RVs (cx w Zo st.m β) st.g gh) (hm : st.m[q]? = some (.mp true ks vs)) (hβ : β[q]? = some l) (hlb : l.b < w.heap.size) (hk' : RVs (cx w Zo st.m β) ks' (es'.toList.map (·.key))) (hv' : RVs (cx w Zo st.m β) vs' (es'.toList.map (·.val))) (hb2 : Born es' n') :
  ∃ w',w' = { w with heap:=w.heap.setIfInBounds l.b (.map es' n') } ∧ Mem w' Zo (st.m.set q (.mp true ks' vs')) β ∧ (cx w Zo st.m β).le (cx w' Zo (st.m.set q (.mp true ks' vs')) β) ∧ (∀ b,liveAt (st.m.set q (.mp true ks' vs')) β b → E b ∨ w0.heap.size ≤ b) ∧ Frame E w0 w':=by
 refine ⟨_,rfl,?_⟩
 have hT:=M.turn (w':={ w with heap:=w.heap.setIfInBounds l.b (.map es' n') }) (ob':=.mp true ks' vs') hm hβ
  (.inr ⟨_,_,_,_,rfl,rfl,rfl⟩) (fun b hb=>hb) (by simp)
  (fun b hlt hne=>by
   have : l.b ≠ b:=fun e=>hne (by rw [← e]; rfl)
   simp [ZF,this])
  (fun hle _=>by
   have hb' : ({ w with heap:=w.heap.setIfInBounds l.b (Obj.map es' n') } : World).heap[l.b]? = some (.map es' n'):=by simp [ZF,hlb]
   exact ⟨es',n',hb',hk'.mono hle,hv'.mono hle,hb2,.inl rfl⟩)
 obtain ⟨M',hle⟩:=hT
 have hl:=hE _ ⟨q,_,l,hm,hβ,rfl⟩
 refine ⟨M',hle,?_,⟨hF.os,hF.tape,hF.output,by simpa using hF.size,fun b hb hnE=>?_,hF.drawn⟩⟩
 ·rintro b ⟨p,ob,l',h3,h4,h5⟩
  rcases getElem?_set_some h3 with ⟨e2,e3,_⟩ | ⟨hne,h3⟩
  ·subst e2; subst e3
   rw [hβ] at h4; cases h4
   exact hE b ⟨_,_,l,hm,hβ,h5⟩
  ·exact hE b ⟨p,ob,l',h3,h4,h5⟩
 ·have hne : l.b ≠ b:=by
   intro e
   subst e
   rcases hl with hl | hl
   ·exact hnE hl
   ·omega
  rw [← hF.block b hb hnE]
  simp [ZF,hne]
theorem s_mapEntryK {t : TypeId} {x y : Operand} (ho : o.op = .mapEntry t x y) (h : meVC P t st.m (St.ev st.t x) (St.ev st.t y) (fun r m'=>K ⟨putT st.t o.dst r,m',st.g⟩)) : OWK P o st K:=by
 obtain ⟨q,ks,vs,z0,r,hx,hm,hkey,hsame,hK⟩:=h
 intro w0 E Zo gh a w Q ⟨β,M,hE,hF,hd,ht,hgh⟩
 have hvx:=ev_RV ht x
 have hvy:=ev_RV ht y
 rw [hx] at hvx
 obtain ⟨_,l,hβ,hOK,e1⟩:=at_map M (Agree.refl _) hm hvx
 obtain ⟨es,n,k1,k2,k3,kb,_⟩:=hOK
 have k1 : w.heap[l.b]? = some (.map es n):=k1
 obtain ⟨kt,et,hmt,hck,hfk,zv,hzv,hz⟩:=run_key (P:=P) (w:=w) hkey k2 hvy
 have hlb : l.b < w.heap.size:=(Zr.1 k1).1
 have hset : ∀ ob,(setObj l.b ob).run P w = .ok () { w with heap:=w.heap.setIfInBounds l.b ob }:=fun ob=>by
  simp [setObj,Sem.run,k1]
 have hksl : ks.length = es.size:=by have:=k2.length; simpa using this.symm
 cases r with
 | none =>
  obtain ⟨w',rfl,M',hle,hE',hF'⟩:=map_turn (ks':=ks ++ [St.ev st.t y]) (vs':=vs ++ [z0]) (es':=es.push { key:=a.eval y,val:=zv,born:=n }) (n':=n + 1) M hE hF ht hgh hm hβ hlb
   (by simp only [Yl,Ym,ZP,Yn]; exact k2.append (RVs.one1 hvy)) (by simp only [Yl,Ym,ZP,Yn]; exact k3.append (RVs.one1 hz)) (kb.push rfl)
  have hexec : (execOp a.eval o).run P w = .ok (.value (.tuple #[zv,goInt n])) { w with heap:=w.heap.setIfInBounds l.b (.map (es.push { key:=a.eval y,val:=zv,born:=n }) (n + 1)) }:=by
   have : (Instr.mapEntry t (a.eval x) (a.eval y)).run P w = .ok (.tuple #[zv,goInt n]) { w with heap:=w.heap.setIfInBounds l.b (.map (es.push { key:=a.eval y,val:=zv,born:=n }) (n + 1)) }:=by
    unfold Instr.mapEntry
    rw [e1]
    simp only [Sem.run_bind,run_und hmt,Result.andThen_ok,run_getMap k1,hck,hfk,Option.bind_none,hzv,hset]
    rfl
   simp only [execOp,ho,Sem.run_bind,this,Result.andThen_ok]
   rfl
  unfold Oper.wp
  rw [hexec,Oper.upon_value]
  refine ⟨keep_map k1 _ _,_,hK,β,M',hE',hF',by cases o.dst <;> exact hd,(ht.mono hle).put (x:=.tup [z0,.int .i64 ks.length]) ⟨_,rfl,?_⟩ o.dst,hgh.mono hle⟩
  refine ⟨zv,_,rfl,hz.mono hle,_,_,rfl,?_,rfl⟩
  show goInt n = _
  rw [hksl,← kb.1]; rfl
 | some j =>
  have hj:=hsame j rfl
  obtain ⟨u,g1,g2⟩:=k2.get j hj
  rw [Zf] at g1
  obtain ⟨e',g3,g4⟩:=Zg.1 g1
  have g5 : es[j]? = some e':=by simpa using g3
  have hst:=run_stays (P:=P) (w:=w) hkey g2 hvy
  have hbj:=kb.2 j e' g5
  have hvj : RV (cx w Zo st.m β) (vs.getD j .junk) e'.val:=by
   have hlen:=k3.length
   have hjl : j < vs.length:=by
    have:=(Zc.1 g3).1
    rw [Zz] at hlen; omega
   have hjv : vs[j]? = some (vs.getD j .junk):=by rw [Zm,Zy hjl]; rfl
   obtain ⟨u2,h1,h2⟩:=k3.get j hjv
   rw [Zf,g3] at h1
   injection h1 with h1
   rw [← h1] at h2; exact h2
  have hmod : ∀ (f : MapEntry → Value) (v : Value) (k : MapEntry → MapEntry),f (k e') = v → (es.modify j k).toList.map f = (es.toList.map f).set j v:=by
   intro f v k hv
   apply Yb
   intro i
   rw [Zf,Zs,Yk,ZQ,Zf,Zs]
   by_cases hji : j = i
   ·subst hji
    have hlt : j < es.toList.length:=(Zc.1 g3).1
    simp only [if_true,g5,ZC,Zz,hlt,hv]
   ·simp [hji]
  have hks : ks.set j (St.ev st.t y) = ks:=set_same' hj
  have hvs : vs.set j (vs.getD j .junk) = vs:=by
   have hlen:=k3.length
   have hjl : j < vs.length:=by
    have:=(Zc.1 g3).1
    rw [Zz] at hlen; omega
   exact set_same' (by rw [Zm,Zy hjl]; rfl)
  obtain ⟨w',rfl,M',hle,hE',hF'⟩:=map_turn (ks':=ks) (vs':=vs) (es':=es.modify j fun e=>{ e with key:=a.eval y }) (n':=n) M hE hF ht hgh hm hβ hlb
   (by
    rw [hmod (·.key) (a.eval y) _ rfl]
    have:=k2.set j hvy
    rwa [hks] at this)
   (by
    rw [hmod (·.val) e'.val _ rfl]
    have:=k3.set j hvj
    rwa [hvs] at this) (kb.modify fun _=>rfl)
  have hmm : st.m.set q (.mp true ks vs) = st.m:=set_same' hm
  rw [hmm] at M' hle hE'
  have hexec : (execOp a.eval o).run P w = .ok (.value (.tuple #[e'.val,goInt e'.born])) { w with heap:=w.heap.setIfInBounds l.b (.map (es.modify j fun e=>{ e with key:=a.eval y }) n) }:=by
   have : (Instr.mapEntry t (a.eval x) (a.eval y)).run P w = .ok (.tuple #[e'.val,goInt e'.born]) { w with heap:=w.heap.setIfInBounds l.b (.map (es.modify j fun e=>{ e with key:=a.eval y }) n) }:=by
    unfold Instr.mapEntry
    rw [e1]
    simp only [Sem.run_bind,run_und hmt,Result.andThen_ok,run_getMap k1,hck,hfk,ZD,g3,ZC,g5,Yz,g4,hst,hset]
    rfl
   simp only [execOp,ho,Sem.run_bind,this,Result.andThen_ok]
   rfl
  unfold Oper.wp
  rw [hexec,Oper.upon_value]
  refine ⟨keep_map k1 _ _,_,hK,β,M',hE',hF',by cases o.dst <;> exact hd,(ht.mono hle).put (x:=.tup [vs.getD j .junk,.int .i64 j]) ⟨_,rfl,?_⟩ o.dst,hgh.mono hle⟩
  refine ⟨_,_,rfl,hvj.mono hle,_,_,rfl,?_,rfl⟩
  show goInt e'.born = _
  rw [hbj]; rfl
theorem s_mapEntry {t : TypeId} {x y : Operand} (ho : o.op = .mapEntry t x y) (h : meVC P t st.m (St.ev st.t x) (St.ev st.t y) (fun r m'=>K ⟨putT st.t o.dst r,m',st.g⟩)) : OW P o st K:=(s_mapEntryK ho h).ow
def esVC (m : List Ob) (x s z : V) (K : List Ob → Prop) : Prop :=
 ∃ q ks vs j,x = .map q ∧ m[q]? = some (.mp true ks vs) ∧ s = .int .i64 (j : Nat) ∧ j < ks.length ∧ K (m.set q (.mp true ks (vs.set j z)))
theorem s_entryStoreK {t : TypeId} {x s z : Operand} (ho : o.op = .entryStore t x s z) (h : esVC st.m (St.ev st.t x) (St.ev st.t s) (St.ev st.t z) (fun m'=>K ⟨putT st.t o.dst .junk,m',st.g⟩)) : OWK P o st K:=by
 obtain ⟨q,ks,vs,j,hx,hm,hs,hj,hK⟩:=h
 intro w0 E Zo gh a w Q ⟨β,M,hE,hF,hd,ht,hgh⟩
 have hvx:=ev_RV ht x
 have hvs:=ev_RV ht s
 have hvz:=ev_RV ht z
 rw [hx] at hvx
 rw [hs] at hvs
 have hvs : a.eval s = .int .i64 (j : Nat):=hvs
 obtain ⟨_,l,hβ,hOK,e1⟩:=at_map M (Agree.refl _) hm hvx
 obtain ⟨es,n,k1,k2,k3,kb,_⟩:=hOK
 have k1 : w.heap[l.b]? = some (.map es n):=k1
 have hlb : l.b < w.heap.size:=(Zr.1 k1).1
 have hset : ∀ ob,(setObj l.b ob).run P w = .ok () { w with heap:=w.heap.setIfInBounds l.b ob }:=fun ob=>by
  simp [setObj,Sem.run,k1]
 have hksl : ks.length = es.size:=by have:=k2.length; simpa using this.symm
 have hjs : j < es.size:=by omega
 have g5 : es[j]? = some es[j]:=Zp hjs
 generalize es[j] = e' at g5
 have hmod : ∀ (f : MapEntry → Value) (v : Value) (k : MapEntry → MapEntry),f (k e') = v → (es.modify j k).toList.map f = (es.toList.map f).set j v:=by
  intro f v k hv
  apply Yb
  intro i
  rw [Zf,Zs,Yk,ZQ,Zf,Zs]
  by_cases hji : j = i
  ·subst hji
   have hlt : j < es.toList.length:=by simpa using hjs
   simp only [if_true,g5,ZC,Zz,hlt,hv]
  ·simp [hji]
 have hfind : es.findIdx? (fun e=>(e.born : Int) == (j : Int)) = some j:=by
  rw [Array.findIdx?_eq_some_iff_getElem]
  refine ⟨hjs,?_,fun i hi=>?_⟩
  ·have:=kb.2 j es[j] (Zp hjs)
   simp [this]
  ·have h2 : i < es.size:=by omega
   have:=kb.2 i es[i] (Zp h2)
   simp only [this,beq_iff_eq]
   omega
 obtain ⟨w',rfl,M',hle,hE',hF'⟩:=map_turn (ks':=ks) (vs':=vs.set j (St.ev st.t z)) (es':=es.modify j fun e=>{ e with val:=a.eval z }) (n':=n) M hE hF ht hgh hm hβ hlb
  (by
   rw [hmod (·.key) e'.key _ rfl]
   have h1 : (es.toList.map (·.key))[j]? = some e'.key:=by rw [Zf,Zs,g5]; rfl
   rw [set_same' h1]; exact k2)
  (by rw [hmod (·.val) (a.eval z) _ rfl]; exact k3.set j hvz) (kb.modify fun _=>rfl)
 have hexec : (execOp a.eval o).run P w = .ok .skip { w with heap:=w.heap.setIfInBounds l.b (.map (es.modify j fun e=>{ e with val:=a.eval z }) n) }:=by
  have : (Instr.entryStore t (a.eval x) (a.eval s) (a.eval z)).run P w = .ok () { w with heap:=w.heap.setIfInBounds l.b (.map (es.modify j fun e=>{ e with val:=a.eval z }) n) }:=by
   unfold Instr.entryStore
   rw [e1,hvs]
   simp only [Sem.run_bind,Result.andThen_ok,run_getMap k1,asInt,asIntOf,Sem.run_pure,hfind]
   exact hset _
  simp only [execOp,ho,Sem.run_bind,this,Result.andThen_ok]
  rfl
 unfold Oper.wp
 rw [hexec,Oper.upon_skip]
 exact ⟨keep_map k1 _ _,_,hK,β,M',hE',hF',by cases o.dst <;> exact hd,(ht.mono hle).put (x:=.junk) trivial o.dst,hgh.mono hle⟩
theorem s_entryStore {t : TypeId} {x s z : Operand} (ho : o.op = .entryStore t x s z) (h : esVC st.m (St.ev st.t x) (St.ev st.t s) (St.ev st.t z) (fun m'=>K ⟨putT st.t o.dst .junk,m',st.g⟩)) : OW P o st K:=(s_entryStoreK ho h).ow
end
end Go.Pm
end
section
namespace Go.Pm
open Go.RowKit
def Ob.ren (ρ : Nat → Nat) : Ob → Ob
 | .box lv cs=>.box lv (rens ρ cs)
 | .arr lv sz xs=>.arr lv sz (renss ρ xs)
 | .mp lv ks vs=>.mp lv (rens ρ ks) (rens ρ vs)
 | ob=>ob
def Ob.refs (ok : Nat → Prop) : Ob → Prop
 | .box _ cs=>Refs ok cs
 | .arr _ _ xs=>Refss ok xs
 | .mp _ ks vs=>Refs ok ks ∧ Refs ok vs
 | _=>True
theorem Ob.ren_blk (ρ : Nat → Nat) (ob : Ob) (l : Lc) : (ob.ren ρ).blk l = ob.blk l:=by
 cases ob <;> simp only [Ob.ren] <;> rename_i lv _ <;> (try (rename_i a; cases a <;> rfl)) <;> (try (cases lv <;> rfl))
 all_goals (first | rfl | (rename_i a b; cases a <;> rfl))
theorem obLe_ren (ρ : Nat → Nat) (x : Option Ob) (y : Option Lc) : obLe x y (x.map (Ob.ren ρ)) y:=by
 cases x with
 | none=>cases y <;> trivial
 | some ob =>
  cases y with
  | none=>cases ob <;> first | trivial | rfl
  | some l =>
   cases ob with
   | hole=>trivial
   | dead=>rfl
   | box lv cs=>exact .inr ⟨_,_,_,rfl,rfl,rfl⟩
   | arr lv sz xs=>exact .inr ⟨_,_,rfl,rfl,by rw [renss_length]; exact Zk _⟩
   | mp lv ks vs=>exact .inr ⟨_,_,_,_,rfl,rfl,rfl⟩
theorem OK.ren {c c' : Cx} {ρ : Nat → Nat} {ok : Nat → Prop} (h : Tr c c' ρ ok) {l : Lc} {ob : Ob} (hw : c'.w.heap[l.b]? = c.w.heap[l.b]?) (hp : ob.refs ok) (k : OK c l ob) : OK c' l (ob.ren ρ):=by
 cases ob with
 | hole=>trivial
 | dead=>trivial
 | box lv cs =>
  obtain ⟨us,e,fr,h1,h2,h3,h4,h5⟩:=k
  exact ⟨us,e,fr,hw.trans h1,by rw [rens_length]; exact h2,h3,RC.tr h l.b hw cs 0 hp h4,h5.imp id fun q=>(h.fz _ q).1⟩
 | arr lv sz xs =>
  obtain ⟨h1,h2,h3,h4⟩:=k
  refine ⟨by rw [renss_length]; exact h1,h2,h3,h4.imp id ?_⟩
  rintro ⟨us,e,fr,g1,g2,g3,g4,g5⟩
  exact ⟨us,e,fr,hw.trans g1,g2,g3,RR.tr h sz l.b hw xs 0 hp g4,g5.imp id fun q=>(h.fz _ q).1⟩
 | mp lv ks vs =>
  obtain ⟨es,n,h1,h2,h3,hb,h4⟩:=k
  exact ⟨es,n,hw.trans h1,RVs.tr h ks _ hp.1 h2,RVs.tr h vs _ hp.2 h3,hb,h4.imp id fun q=>(h.fz _ q).1⟩
theorem Ob.refs_all (ob : Ob) : ob.refs (fun _=>True):=by
 cases ob with
 | hole=>trivial
 | dead=>trivial
 | box lv cs=>exact Refs.all cs
 | arr lv sz xs=>exact Refss.all xs
 | mp lv ks vs=>exact ⟨Refs.all ks,Refs.all vs⟩
theorem Ob.ren_pure (ρ : Nat → Nat) {ob : Ob} (h : ob.pure) : ob.ren ρ = ob:=by
 cases ob with
 | hole=>rfl
 | dead=>rfl
 | box lv cs=>simp only [Ob.ren]; rw [rens_pure cs h]
 | arr lv sz xs=>simp only [Ob.ren]; rw [renss_pure xs h]
 | mp lv ks vs=>simp only [Ob.ren]; rw [rens_pure ks h.1,rens_pure vs h.2]
section
variable {w w' : World} {Zo : Nat → Prop} {m mr : List Ob} {β βr : List Lc} {base : Nat}
theorem Mem.joinN (M : Mem w Zo m β) (G : Grow w w') (M' : Mem w' (fun b=>Zo b ∨ liveAt m β b) mr βr) (hn : ∀ b,liveAt mr βr b → w.heap.size ≤ b) (hb : base + mr.length ≤ m.length) (hh : ∀ j,j < mr.length → m[base + j]? = some .hole) :
  Mem w' Zo (fills m base (mr.map (Ob.ren fun q=>base + q))) (fillsL β base βr) ∧ (cx w Zo m β).le (cx w' Zo (fills m base (mr.map (Ob.ren fun q=>base + q))) (fillsL β base βr)) ∧
   Tr (cx w' (fun b=>Zo b ∨ liveAt m β b) mr βr) (cx w' Zo (fills m base (mr.map (Ob.ren fun q=>base + q))) (fillsL β base βr)) (fun o=>base + o) (fun _=>True) ∧ (∀ b,liveAt (fills m base (mr.map (Ob.ren fun q=>base + q))) (fillsL β base βr) b → liveAt m β b ∨ w.heap.size ≤ b):=by
 have hL:=M'.len
 have gm : ∀ q,(fills m base (mr.map (Ob.ren fun q=>base + q)))[q]? = if base ≤ q ∧ q < base + mr.length then mr[q - base]?.map (Ob.ren fun q=>base + q) else m[q]?:=fun q=>by
  rw [fills_get (mr.map (Ob.ren fun q=>base + q)) m base q (by rw [Zz]; exact hb),Zz,Zf]
 have gβ : ∀ q,(fillsL β base βr)[q]? = if base ≤ q ∧ q < base + mr.length then βr[q - base]? else β[q]?:=fun q=>by
  rw [fillsL_get βr β base q (by rw [M.len,hL]; exact hb),hL]
 have gin : ∀ q,base ≤ q ∧ q < base + mr.length → m[q]? = some .hole:=fun q hq=>by
  have:=hh (q - base) (by omega)
  rwa [show base + (q - base) = q by omega] at this
 have glive : ∀ q ob l b,(fills m base (mr.map (Ob.ren fun q=>base + q)))[q]? = some ob → (fillsL β base βr)[q]? = some l → ob.blk l = some b →
   (¬ (base ≤ q ∧ q < base + mr.length) ∧ m[q]? = some ob ∧ β[q]? = some l ∧ b < w.heap.size) ∨ (base ≤ q ∧ q < base + mr.length ∧ (∃ ob0,mr[q - base]? = some ob0 ∧ ob0.blk l = some b) ∧ βr[q - base]? = some l ∧ w.heap.size ≤ b):=by
  intro q ob l b h1 h2 h3
  rw [gm] at h1
  rw [gβ] at h2
  by_cases hq : base ≤ q ∧ q < base + mr.length
  ·rw [if_pos hq] at h1 h2
   obtain ⟨ob0,h4,rfl⟩:=Zg.1 h1
   rw [Ob.ren_blk] at h3
   exact .inr ⟨hq.1,hq.2,⟨ob0,h4,h3⟩,h2,hn b ⟨_,_,_,h4,h2,h3⟩⟩
  ·rw [if_neg hq] at h1 h2
   exact .inl ⟨hq,h1,h2,M.live_lt ⟨_,_,_,h1,h2,h3⟩⟩
 have hlive : ∀ b,liveAt (fills m base (mr.map (Ob.ren fun q=>base + q))) (fillsL β base βr) b → liveAt m β b ∨ (liveAt mr βr b ∧ w.heap.size ≤ b):=by
  rintro b ⟨q,ob,l,h1,h2,h3⟩
  rcases glive q ob l b h1 h2 h3 with ⟨_,a1,a2,_⟩ | ⟨_,_,⟨ob0,a1,a4⟩,a2,a3⟩
  ·exact .inl ⟨q,ob,l,a1,a2,h3⟩
  ·exact .inr ⟨⟨_,ob0,l,a1,a2,a4⟩,a3⟩
 have hle : (cx w Zo m β).le (cx w' Zo (fills m base (mr.map (Ob.ren fun q=>base + q))) (fillsL β base βr)):=by
  refine ⟨fun b hf=>⟨⟨ZR hf.1 G.size,?_⟩,G.block b hf.1⟩,fun q _=>?_⟩
  ·rintro (hz | hz)
   ·exact hf.2 (.inl hz)
   ·rcases hlive b hz with h | ⟨_,h⟩
    ·exact hf.2 (.inr h)
    ·have h2 : b < w.heap.size:=hf.1
     omega
  ·show obLe m[q]? β[q]? (fills m base (mr.map (Ob.ren fun q=>base + q)))[q]? (fillsL β base βr)[q]?
   refine obLe_some (fun ob h1 h2=>?_) (fun l h1=>?_)
   ·rw [gm,if_neg (fun hq=>h2 (by rw [gin q hq] at h1; cases h1; rfl))]
    exact h1
   ·by_cases hq : base ≤ q ∧ q < base + mr.length
    ·exact .inr (gin q hq)
    ·rw [gβ,if_neg hq]; exact .inl h1
 have htr : Tr (cx w' (fun b=>Zo b ∨ liveAt m β b) mr βr) (cx w' Zo (fills m base (mr.map (Ob.ren fun q=>base + q))) (fillsL β base βr)) (fun o=>base + o) (fun _=>True):=by
  refine ⟨fun b hf=>⟨⟨hf.1,?_⟩,rfl⟩,fun q _=>?_⟩
  ·rintro (hz | hz)
   ·exact hf.2 (.inl (.inl hz))
   ·rcases hlive b hz with h | ⟨h,_⟩
    ·exact hf.2 (.inl (.inr h))
    ·exact hf.2 (.inr h)
  ·show obLe mr[q]? βr[q]? (fills m base (mr.map (Ob.ren fun q=>base + q)))[base + q]? (fillsL β base βr)[base + q]?
   by_cases hq : q < mr.length
   ·rw [gm,gβ,if_pos (by omega),if_pos (by omega),Yw]
    exact obLe_ren _ _ _
   ·rw [ZL (by omega : mr.length ≤ q)]
    unfold obLe
    split <;> simp_all
 refine ⟨⟨by rw [fillsL_length,fills_length,M.len],?_,?_,?_,fun b hz=>ZR (M.zlt b hz) G.size⟩,hle,htr,fun b h=>(hlive b h).imp id (·.2)⟩
 ·intro q ob l h1 h2
  by_cases hq : base ≤ q ∧ q < base + mr.length
  ·rw [gm,if_pos hq] at h1
   rw [gβ,if_pos hq] at h2
   obtain ⟨ob0,h4,rfl⟩:=Zg.1 h1
   exact OK.ren htr rfl (Ob.refs_all ob0) (M'.ok _ ob0 l h4 h2)
  ·rw [gm,if_neg hq] at h1
   rw [gβ,if_neg hq] at h2
   exact (M.ok q ob l h1 h2).mono hle (fun b hb=>G.block b (blk_lt (M.ok q ob l h1 h2) hb).2)
 ·intro q q' ob ob' l l' b h1 h2 h3 h4 h5 h6
  rcases glive q ob l b h1 h3 h5 with ⟨a1,a2,a3,a4⟩ | ⟨a1,a2,⟨o3,a3,a6⟩,a4,a5⟩ <;> rcases glive q' ob' l' b h2 h4 h6 with ⟨b1,b2,b3,b4⟩ | ⟨b1,b2,⟨o4,b3,b6⟩,b4,b5⟩
  ·exact M.sep _ _ _ _ _ _ b a2 b2 a3 b3 h5 h6
  ·omega
  ·omega
  ·have:=M'.sep _ _ _ _ _ _ b a3 b3 a4 b4 a6 b6
   omega
 ·intro b hb hz
  rcases hlive b hb with h | ⟨_,h⟩
  ·exact M.out b h hz
  ·have:=M.zlt b hz
   omega
end
def dcv : Nat → List Ob → V → V
 | 0,_,x=>x
 | n + 1,m,.ar q off len=>match m[q]? with
   | some (.arr _ sz xs)=>.sl sz (((xs.drop off).take len).map fun c=>c.map (dcv n m))
   | _=>.ar q off len
 | n + 1,m,.arc q off len cap=>match m[q]? with
   | some (.arr _ sz xs)=>.sl sz (((xs.drop off).take len).map fun c=>c.map (dcv n m))
   | _=>.arc q off len cap
 | n + 1,m,.ptr q off=>match m[q]? with
   | some (.box _ cs)=>.fptr (cs.map (dcv n m)) off
   | _=>.ptr q off
 | n + 1,m,.map q=>match m[q]? with
   | some (.mp _ ks vs)=>.fmap (ks.map (dcv n m)) (vs.map (dcv n m))
   | _=>.map q
 | n + 1,m,.agg cs=>.agg (cs.map (dcv n m))
 | n + 1,m,.tup cs=>.tup (cs.map (dcv n m))
 | n + 1,m,.fn f fs cs=>.fn f (fs.map (dcv n m)) (cs.map (dcv n m))
 | _ + 1,_,x=>x
section
variable {w : World} {Zo : Nat → Prop} {mT m : List Ob} {β : List Lc}
theorem Refs_mem {ok : Nat → Prop} : ∀ {xs : List V} {x : V},Refs ok xs → x ∈ xs → Ref ok x
 | y :: ys,x,h,hx=>by
   rcases ZI.1 hx with rfl | hx
   ·exact h.1
   ·exact Refs_mem h.2 hx
theorem Refss_mem {ok : Nat → Prop} : ∀ {xs : List (List V)} {x : List V},Refss ok xs → x ∈ xs → Refs ok x
 | y :: ys,x,h,hx=>by
   rcases ZI.1 hx with rfl | hx
   ·exact h.1
   ·exact Refss_mem h.2 hx
theorem RVs_map {c c' : Cx} {f : V → V} : ∀ {xs : List V} {us : List Value},(∀ x ∈ xs,∀ v,RV c x v → RV c' (f x) v) → RVs c xs us → RVs c' (xs.map f) us
 | [],us,_,h=>h
 | x :: xs,us,hf,⟨u,us',e,h1,h2⟩=>⟨u,us',e,hf x Zx u h1,RVs_map (fun y hy=>hf y (ZE _ hy)) h2⟩
theorem RC_map {c c' : Cx} {f : V → V} (hw : c'.w = c.w) {b : Nat} : ∀ {xs : List V} {o : Nat},(∀ x ∈ xs,∀ v,RV c x v → RV c' (f x) v) → RC c b o xs → RC c' b o (xs.map f)
 | [],o,_,h=>trivial
 | x :: xs,o,hf,⟨⟨u,e,h1⟩,h2⟩=>⟨⟨u,by rw [hw]; exact e,hf x Zx u h1⟩,RC_map hw (fun y hy=>hf y (ZE _ hy)) h2⟩
theorem RR_map {c c' : Cx} {f : V → V} (hw : c'.w = c.w) {sz b : Nat} : ∀ {xs : List (List V)} {o : Nat},(∀ x ∈ xs,∀ y ∈ x,∀ v,RV c y v → RV c' (f y) v) → RR c sz b o xs → RR c' sz b o (xs.map fun x=>x.map f)
 | [],o,_,h=>trivial
 | x :: xs,o,hf,⟨h0,h1,h2⟩=>⟨by rw [Zz]; exact h0,RC_map hw (hf x Zx) h1,RR_map hw (fun y hy=>hf y (ZE _ hy)) h2⟩
theorem dcv_pure {n : Nat} {x : V} (hx : dcv n mT x = x) (hp : Ref (fun _=>False) (dcv n mT x)) {v : Value} (h : RV (cx w Zo m β) x v) : RV (cx w Zo [] []) (dcv n mT x) v:=by
 rw [hx] at hp ⊢
 exact RV.pure0 hp h
theorem dcv_sound (M : Mem w Zo m β) (A : Agree mT m) : ∀ (n : Nat) (x : V) (v : Value),Ref (fun _=>False) (dcv n mT x) → RV (cx w Zo m β) x v → RV (cx w Zo [] []) (dcv n mT x) v
 | 0,x,v,hp,h=>RV.pure0 hp h
 | n + 1,.ar q off len,v,hp,h=>by
   unfold dcv at hp ⊢
   cases hT : mT[q]? with
   | none=>rw [hT] at hp; exact hp.elim
   | some ob =>
    rw [hT] at hp
    cases ob with
    | arr lv sz xs =>
     simp only at hp ⊢
     obtain ⟨hm,l,hl,⟨g1,g2,g3,g4⟩,hle,A',e,hA⟩:=at_ar M A hT h
     have hlen : ((xs.drop off).take len).length = len:=by simp; omega
     have hlen2 : (((xs.drop off).take len).map fun c=>c.map (dcv n mT)).length = len:=by rw [Zz,hlen]
     refine ⟨A',l.cap - off,by rw [hlen2]; exact e,by rw [hlen2]; omega,by rw [hlen2]; omega,?_⟩
     by_cases h0 : len = 0
     ·exact .inl (Zn (by rw [hlen2,h0]))
     ·refine .inr ?_
      rcases g4 with g4 | ⟨us,e',fr,h1,h2,h3,h4,h5⟩
      ·omega
      ·have hb : (cx w Zo [] []).fz l.b:=by
        refine fz0 (Zr.1 h1).1 fun hz=>?_
        cases lv with
        | true=>exact M.out l.b ⟨q,_,l,hm,hl,by simp [Ob.blk]; omega⟩ hz
        | false=>exact (h5.resolve_left (by simp)).2 (.inl hz)
       refine ⟨l.b,off * sz,hA (by omega),hb,?_⟩
       have:=(h4.drop off).take len
       rw [Zl] at this
       refine RR_map (c:=cx w Zo m β) (c':=cx w Zo [] []) (f:=dcv n mT) rfl (fun x hx y hy v hv=>?_) this
       refine dcv_sound M A n y v ?_ hv
       have hp : Refss (fun _=>False) (((xs.drop off).take len).map fun c=>c.map (dcv n mT)):=hp
       exact Refs_mem (Refss_mem hp (Zt.2 ⟨x,hx,rfl⟩)) (Zt.2 ⟨y,hy,rfl⟩)
    | hole=>exact hp.elim
    | dead=>exact hp.elim
    | box lv cs=>exact hp.elim
    | mp lv ks vs=>exact hp.elim
 | n + 1,.arc q off len cap,v,hp,h=>by
   unfold dcv at hp ⊢
   cases hT : mT[q]? with
   | none=>rw [hT] at hp; exact hp.elim
   | some ob =>
    rw [hT] at hp
    cases ob with
    | arr lv sz xs =>
     simp only at hp ⊢
     obtain ⟨hm,l,hl,⟨g1,g2,g3,g4⟩,hle,A',e,hA⟩:=at_ar M A hT (RV_arc h)
     have hlen : ((xs.drop off).take len).length = len:=by simp; omega
     have hlen2 : (((xs.drop off).take len).map fun c=>c.map (dcv n mT)).length = len:=by rw [Zz,hlen]
     refine ⟨A',l.cap - off,by rw [hlen2]; exact e,by rw [hlen2]; omega,by rw [hlen2]; omega,?_⟩
     by_cases h0 : len = 0
     ·exact .inl (Zn (by rw [hlen2,h0]))
     ·refine .inr ?_
      rcases g4 with g4 | ⟨us,e',fr,h1,h2,h3,h4,h5⟩
      ·omega
      ·have hb : (cx w Zo [] []).fz l.b:=by
        refine fz0 (Zr.1 h1).1 fun hz=>?_
        cases lv with
        | true=>exact M.out l.b ⟨q,_,l,hm,hl,by simp [Ob.blk]; omega⟩ hz
        | false=>exact (h5.resolve_left (by simp)).2 (.inl hz)
       refine ⟨l.b,off * sz,hA (by omega),hb,?_⟩
       have:=(h4.drop off).take len
       rw [Zl] at this
       refine RR_map (c:=cx w Zo m β) (c':=cx w Zo [] []) (f:=dcv n mT) rfl (fun x hx y hy v hv=>?_) this
       refine dcv_sound M A n y v ?_ hv
       have hp : Refss (fun _=>False) (((xs.drop off).take len).map fun c=>c.map (dcv n mT)):=hp
       exact Refs_mem (Refss_mem hp (Zt.2 ⟨x,hx,rfl⟩)) (Zt.2 ⟨y,hy,rfl⟩)
    | hole=>exact hp.elim
    | dead=>exact hp.elim
    | box lv cs=>exact hp.elim
    | mp lv ks vs=>exact hp.elim
 | n + 1,.ptr q off,v,hp,h=>by
   unfold dcv at hp ⊢
   cases hT : mT[q]? with
   | none=>rw [hT] at hp; exact hp.elim
   | some ob =>
    rw [hT] at hp
    cases ob with
    | box lv cs =>
     simp only at hp ⊢
     obtain ⟨hm,l,hl,⟨us,e',fr,h1,h2,h3,h4,h5⟩,e⟩:=at_ptr M A hT h (by simp)
     have hb : (cx w Zo [] []).fz l.b:=by
      refine fz0 (Zr.1 h1).1 fun hz=>?_
      cases lv with
      | true=>exact M.out l.b ⟨q,_,l,hm,hl,rfl⟩ hz
      | false=>exact (h5.resolve_left (by simp)).2 (.inl hz)
     refine ⟨l.b,e,hb,?_⟩
     refine RC_map (c:=cx w Zo m β) (c':=cx w Zo [] []) (f:=dcv n mT) rfl (fun y hy v hv=>?_) h4
     refine dcv_sound M A n y v ?_ hv
     have hp : Refs (fun _=>False) (cs.map (dcv n mT)):=hp
     exact Refs_mem hp (Zt.2 ⟨y,hy,rfl⟩)
    | hole=>exact hp.elim
    | dead=>exact hp.elim
    | arr lv sz xs=>exact hp.elim
    | mp lv ks vs=>exact hp.elim
 | n + 1,.map q,v,hp,h=>by
   unfold dcv at hp ⊢
   cases hT : mT[q]? with
   | none=>rw [hT] at hp; exact hp.elim
   | some ob =>
    rw [hT] at hp
    cases ob with
    | mp lv ks vs =>
     simp only at hp ⊢
     obtain ⟨hm,l,hl,⟨es,k,h1,h2,h3,_,h5⟩,e⟩:=at_map M A hT h
     have hb : (cx w Zo [] []).fz l.b:=by
      refine fz0 (Zr.1 h1).1 fun hz=>?_
      cases lv with
      | true=>exact M.out l.b ⟨q,_,l,hm,hl,rfl⟩ hz
      | false=>exact (h5.resolve_left (by simp)).2 (.inl hz)
     have hp : Refs (fun _=>False) (ks.map (dcv n mT)) ∧ Refs (fun _=>False) (vs.map (dcv n mT)):=hp
     refine ⟨l.b,es,k,e,hb,h1,RVs_map (fun y hy v hv=>dcv_sound M A n y v ?_ hv) h2,RVs_map (fun y hy v hv=>dcv_sound M A n y v ?_ hv) h3⟩
     ·exact Refs_mem hp.1 (Zt.2 ⟨y,hy,rfl⟩)
     ·exact Refs_mem hp.2 (Zt.2 ⟨y,hy,rfl⟩)
    | hole=>exact hp.elim
    | dead=>exact hp.elim
    | box lv cs=>exact hp.elim
    | arr lv sz xs=>exact hp.elim
 | n + 1,.agg cs,v,hp,⟨us,e,h⟩=>by
   unfold dcv at hp ⊢
   refine ⟨us,e,RVs_map (fun y hy v hv=>dcv_sound M A n y v ?_ hv) h⟩
   have hp : Refs (fun _=>False) (cs.map (dcv n mT)):=hp
   exact Refs_mem hp (Zt.2 ⟨y,hy,rfl⟩)
 | n + 1,.tup cs,v,hp,⟨us,e,h⟩=>by
   unfold dcv at hp ⊢
   refine ⟨us,e,RVs_map (fun y hy v hv=>dcv_sound M A n y v ?_ hv) h⟩
   have hp : Refs (fun _=>False) (cs.map (dcv n mT)):=hp
   exact Refs_mem hp (Zt.2 ⟨y,hy,rfl⟩)
 | n + 1,.fn f fs cs,v,hp,⟨us,vs,e,h1,h2⟩=>by
   unfold dcv at hp ⊢
   have hp : Refs (fun _=>False) (fs.map (dcv n mT)) ∧ Refs (fun _=>False) (cs.map (dcv n mT)):=hp
   refine ⟨us,vs,e,RVs_map (fun y hy v hv=>dcv_sound M A n y v ?_ hv) h1,RVs_map (fun y hy v hv=>dcv_sound M A n y v ?_ hv) h2⟩
   ·exact Refs_mem hp.1 (Zt.2 ⟨y,hy,rfl⟩)
   ·exact Refs_mem hp.2 (Zt.2 ⟨y,hy,rfl⟩)
 | n + 1,.sl sz xs,v,hp,h=>dcv_pure rfl hp h
 | n + 1,.sptr sz xs i off,v,hp,h=>dcv_pure rfl hp h
 | n + 1,.fptr cs off,v,hp,h=>dcv_pure rfl hp h
 | n + 1,.fmap ks vs,v,hp,h=>dcv_pure rfl hp h
 | n + 1,.eptr q i off,v,hp,h=>dcv_pure rfl hp h
 | n + 1,.junk,v,hp,h=>dcv_pure rfl hp h
 | n + 1,.int k z,v,hp,h=>dcv_pure rfl hp h
 | n + 1,.bool b,v,hp,h=>dcv_pure rfl hp h
 | n + 1,.str s,v,hp,h=>dcv_pure rfl hp h
 | n + 1,.nil,v,hp,h=>dcv_pure rfl hp h
 | n + 1,.e0,v,hp,h=>dcv_pure rfl hp h
 | n + 1,.np,v,hp,h=>dcv_pure rfl hp h
end
section
variable {P : Program} {o : Oper} {ev : Operand → V} {mT : List Ob} {base : Nat} {K : V → List Ob → Prop}
theorem q_callD {f : FuncId} {x : Operand} {args : Array Operand} {ts : Array TypeId} {fs cs : List V} {r : V} {mr : List Ob} (n : Nat) (ho : o.op = .call { callee := .value x, args := args, argTypes := ts }) (hf : ev x = .fn f fs cs) (hbd : ∃ fn, P.funcs[f]? = some fn ∧ fn.body.isSome = true ∧ (fn.name == "runtime.NumGoroutine") = false)
  (hp : Refs (fun _=>False) ((fs ++ args.toList.map ev ++ cs).map (dcv n mT))) (hc : Contract P f ((fs ++ args.toList.map ev ++ cs).map (dcv n mT)) r mr) (hr : Flat r) (hfl : ∀ ob ∈ mr,ob.flat) (h : K (r.ren (fun q=>base + q)) (mr.map (Ob.ren fun q=>base + q))) : Goal P o ev mT base K:=by
 refine ⟨_,_,?_,h⟩
 intro w Zo m β a Q M A hx hh
 rw [Zz] at hh
 rw [ho] at hx
 have hv:=hx x (by simp [Op.operands,Call.operands])
 rw [hf] at hv
 obtain ⟨us,vs,e,h1,h2⟩:=hv
 have h3:=run_evs (a:=a) (c:=cx w Zo m β) args.toList (fun y hy=>hx y (by simp [Op.operands,Call.operands]; exact .inr (by simpa using hy)))
 have hall : RVs (cx w Zo m β) (fs ++ args.toList.map ev ++ cs) ((us ++ args.map a.eval) ++ vs).toList:=by
  have:=(h1.append h3).append h2
  simpa using this
 have hall' : RVs (cx w Zo [] []) ((fs ++ args.toList.map ev ++ cs).map (dcv n mT)) ((us ++ args.map a.eval) ++ vs).toList :=
  RVs_map (fun y hy v hv=>dcv_sound M A n y v (Refs_mem hp (Zt.2 ⟨y,hy,rfl⟩)) hv) hall
 have hcall:=hc w Zo _ M.zlt hall'
 have hexec : (execOp a.eval o).run P w = .ok (.enter f ((us ++ args.map a.eval) ++ vs)) w:=by
  obtain ⟨fn,g1,g2,g3⟩:=hbd
  have g4 : fn.body.isNone = false:=by cases hb : fn.body <;> simp_all
  simp only [execOp,ho,resolve,e,Deferred.ofValue,Sem.run_bind,Sem.run_pure,Result.andThen_ok,invoke,callFunc,run_program,g1,g3,g4]
  rfl
 unfold Oper.wp
 rw [hexec]
 rw [Oper.upon_enter]
 have hcall2 : Calls P f (us ++ args.map a.eval ++ vs) w (fun e w'=>∃ v β',e = .returned v ∧ Grow w w' ∧ Mem w' Zo mr β' ∧ RV (cx w' Zo mr β') r v ∧ ∀ b,liveAt mr β' b → w.heap.size ≤ b):=by
  have : (us ++ args.map a.eval ++ vs).toList.toArray = us ++ args.map a.eval ++ vs:=by simp
  rw [this] at hcall
  exact hcall
 refine hcall2.mono ?_
 rintro e' w' ⟨v,βr,rfl,G,M0,hv0,hn⟩
 have M' : Mem w' (fun b=>Zo b ∨ liveAt m β b) mr βr:=by
  refine M0.flatZ hfl ?_ ?_
  ·rintro b hb (hz | hz)
   ·exact M0.out b hb hz
   ·have:=M.live_lt hz
    have:=hn b hb
    omega
  ·intro b hz
   refine ZR ?_ G.size
   rcases hz with hz | hz
   ·exact M.zlt b hz
   ·exact M.live_lt hz
 have hv' : RV (cx w' (fun b=>Zo b ∨ liveAt m β b) mr βr) r v:=RV.flat r v hr hv0
 by_cases hmr0 : mr = []
 ·subst hmr0
  have hβr : βr = []:=Zn (by rw [M'.len]; rfl)
  subst hβr
  refine ⟨v,β,rfl,G,M.grow G,cx_le_grow G,?_,fun b hb=>.inl hb⟩
  have:=RV.tr (c:=cx w' (fun b=>Zo b ∨ liveAt m β b) [] []) (c':=cx w' Zo m β) (ρ:=fun q=>base + q) (ok:=fun _=>True) ⟨fun b hf=>⟨⟨hf.1,fun hz=>hf.2 (.inl hz)⟩,rfl⟩,fun q _=>by show obLe ([] : List Ob)[q]? _ _ _; simp [obLe]⟩ r v (Ref.all r) hv'
  exact this
 ·have hlast : base + (mr.length - 1) < m.length:=by
   have:=hh (mr.length - 1) (by have:=YI.2 hmr0; omega)
   exact (Zc.1 this).1
  have hb : base + mr.length ≤ m.length:=by have:=YI.2 hmr0; omega
  obtain ⟨J1,J2,J3,J4⟩:=M.joinN G M' hn hb hh
  exact ⟨v,_,rfl,G,J1,J2,RV.tr J3 r v (Ref.all r) hv',J4⟩
end
end Go.Pm
end
section
namespace Go.Pm
open Go.RowKit
def bodyOK (P : Program) (f : FuncId) : Bool:=match P.funcs[f]? with
 | some fn => fn.body.isSome && !(fn.name == "runtime.NumGoroutine")
 | none=>false
def callVC (P : Program) (f : FuncId) (args : List V) (m : List Ob) (base : Nat) (K : V → List Ob → Prop) : Prop :=
 (∃ r mr,((∃ as',VLes args as' ∧ Contract P f as' r mr ∧ Refs (fun _=>False) as') ∨ (Contract P f (convRs m args) r mr ∧ Refs (fun _=>False) (convRs m args) ∧ Flat r ∧ ∀ ob ∈ mr,ob.flat)) ∧ (∀ ob ∈ mr,ob.pure) ∧ bodyOK P f = true ∧ K (r.ren (fun q=>base + q)) mr) ∨
 ∃ r mr n,Contract P f (args.map (dcv n m)) r mr ∧ Refs (fun _=>False) (args.map (dcv n m)) ∧ Flat r ∧ (∀ ob ∈ mr,ob.flat) ∧ bodyOK P f = true ∧ K (r.ren (fun q=>base + q)) (mr.map (Ob.ren fun q=>base + q))
def boxVC (m : List Ob) (base : Nat) (K : V → List Ob → Prop) : V → Prop
 | .agg cs=>K (.ptr base 0) [.box true cs]
 | v=>oneV m v = true ∧ K (.ptr base 0) [.box true [v]]
def buildVC (P : Program) (t : TypeId) (m : List Ob) (ev : Operand → V) (ps : List (Nat × Operand)) (K : V → List Ob → Prop) : Prop:=match zer P t,partsV m ev ps with
 | some zs,some ps=>match fillG (placeS P t) zs ps with
   | some cs=>fldsOK P t = true ∧ K (.agg cs) []
   | none=>False
 | _,_=>False
def bsliceVC (P : Program) (t : TypeId) (len : Nat) (m : List Ob) (base : Nat) (ev : Operand → V) (ps : List (Nat × Operand)) (K : V → List Ob → Prop) : Prop:=match elt P t with
 | some e=>match lay P e,zer P e with
   | some (sz,_),some _=>match rowV m ev sz 0 ps with
     | some xs=>0 < sz ∧ xs.length = len ∧ len * sz ≤ 2 ^ 24 ∧ K (.ar base 0 len) [.arr true sz xs]
     | none=>False
   | _,_=>False
 | none=>False
def bslVC (P : Program) (t : TypeId) (len : Nat) (m : List Ob) (base : Nat) (ev : Operand → V) (ps : List (Nat × Operand)) (K : V → List Ob → Prop) : Prop:=match len,ps with
 | 0,[]=>match elt P t with
   | some e=>match lay P e,zer P e with
     | some _,some _=>K .e0 []
     | _,_=>False
   | none=>False
 | len,ps=>bsliceVC P t len m base ev ps K
def binVC (P : Program) (op : BinOp) (t : TypeId) (x y : V) (K : V → Prop) : Prop:=match binV op x y with
 | some r=>K r
 | none=>match boolV op x y with
   | some r=>isBoolT P t = true ∧ K r
   | none=>eqAgg P op t x y K
def unVC (op : UnOp) (x : V) (K : V → Prop) : Prop:=match op,x with
 | .not,.bool b=>K (.bool (!b))
 | .neg,.int k n=>K (.int k (k.wrap (0 - n)))
 | .xor,.int k n=>K (.int k (k.wrap (BitVec.ofInt k.bits (if k.signed then -1 else k.max) ^^^ BitVec.ofInt k.bits n).toNat))
 | _,_=>False
def convVC (P : Program) (s d : TypeId) (m : List Ob) (x : V) (K : V → Prop) : Prop:=match x with
 | .int _ n=>match intT P d with
   | some k=>hasT P s = true ∧ K (.int k (k.wrap n))
   | none=>False
 | x=>∃ ns e,elt P s = some e ∧ intT P e = some .u8 ∧ isStrT P d = true ∧ elemsV m x = some (ns.map fun n=>[.int .u8 n]) ∧ K (.str (strOf ns))
def cnvVC (P : Program) (s d : TypeId) (m : List Ob) (base : Nat) (x : V) (K : V → List Ob → Prop) : Prop:=match x with
 | .str t=>match elt P d with
   | some e=>intT P e = some .u8 ∧ isStrT P s = true ∧ t.size ≤ 2 ^ 47 ∧ K (.ar base 0 t.size) [.arr true 1 (bytesV t)]
   | none=>False
 | x=>convVC P s d m x (fun r=>K r [])
def mkfVC (ev : Operand → V) (fn : Fn) (fs cs : Array Operand) (K : V → Prop) : Prop:=match fn with
 | .func f=>K (.fn f (fs.toList.map ev) (cs.toList.map ev))
 | _=>False
def mksVC (P : Program) (t : TypeId) (base : Nat) (x y : V) (K : V → List Ob → Prop) : Prop:=match elt P t with
 | some e=>match lay P e,zer P e with
   | some (sz,_),some zs=>match x,y with
     | .int _ n,.int _ n'=>n' = n ∧ 0 < sz ∧ zs.length = sz ∧ 0 ≤ n ∧ n * P.bytesOf e ≤ 2 ^ 47 ∧ n ≤ 2 ^ 47 ∧ K (.ar base 0 n.toNat) [.arr true sz (Za n.toNat zs)]
     | _,_=>False
   | _,_=>False
 | none=>False
def sliceVC (P : Program) (t : TypeId) (m : List Ob) (ev : Operand → V) (x : V) (lo hi mx : Option Operand) (K : V → Prop) : Prop:=match mx with
 | some xm=>match lo,hi with
   | some xl,some xh=>match x with
     | .arc q _ _ cap=>match elt P t with
       | some e=>match lay P e,ev xl,ev xh,ev xm,m[q]? with
         | some (sz',_),.int _ l,.int _ h,.int _ k,some (.arr _ sz _)=>sz' = sz ∧ 0 ≤ l ∧ l ≤ h ∧ h ≤ k ∧ k ≤ cap ∧ K .junk
         | _,_,_,_,_=>False
       | none=>False
     | _=>False
   | _,_=>False
 | none=>match x with
   | .str s=>match bnd ev 0 lo,bnd ev s.size hi with
     | some l,some h=>isStrT P t = true ∧ 0 ≤ l ∧ l ≤ h ∧ h ≤ s.size ∧ K (.str (s.extract l.toNat h.toNat))
     | _,_=>False
   | .sl sz xs=>match elt P t with
     | some e=>match lay P e,bnd ev 0 lo,bnd ev xs.length hi with
       | some (sz',_),some l,some h=>sz' = sz ∧ 0 ≤ l ∧ l ≤ h ∧ h ≤ xs.length ∧ K (.sl sz ((xs.take h.toNat).drop l.toNat))
       | _,_,_=>False
     | none=>False
   | .ar q off len=>match elt P t with
     | some e=>match lay P e,bnd ev 0 lo,bnd ev len hi,m[q]? with
       | some (sz',_),some l,some h,some (.arr _ sz _)=>sz' = sz ∧ 0 ≤ l ∧ l ≤ h ∧ h ≤ len ∧ K (.ar q (off + l.toNat) (h.toNat - l.toNat))
       | _,_,_,_=>False
     | none=>False
   | .arc q off len cap=>match elt P t with
     | some e=>match lay P e,bnd ev 0 lo,bnd ev len hi,m[q]? with
       | some (sz',_),some l,some h,some (.arr _ sz xs)=>sz' = sz ∧ 0 ≤ l ∧ l ≤ h ∧ h ≤ cap ∧ off + h.toNat ≤ xs.length ∧ K (.arc q (off + l.toNat) (h.toNat - l.toNat) (cap - l.toNat))
       | _,_,_,_=>False
     | none=>False
   | .nil=>match elt P t with
     | some e=>match lay P e,bnd ev 0 lo,bnd ev 0 hi with
       | some _,some l,some h=>l = 0 ∧ h = 0 ∧ K .nil
       | _,_,_=>False
     | none=>False
   | _=>False
def faddrVC (P : Program) (s f : Nat) (m : List Ob) (x : V) (K : V → Prop) : Prop:=match fld P s f with
 | some (off,n,_)=>match x.step off with
   | some r=>0 < n ∧ oneV m x = true ∧ K r
   | none=>False
 | none=>False
def fieldVC (P : Program) (t f : Nat) (x : V) (K : V → Prop) : Prop:=match fld P t f with
 | some (off,n,ag)=>match x with
   | .agg cs=>rdVC ag n (cs.drop off) K
   | _=>False
 | none=>False
def iaddrVC (P : Program) (t : TypeId) (m : List Ob) (x y : V) (K : V → Prop) : Prop:=match elt P t with
 | some e=>match lay P e with
   | some (sz,_)=>match x,y with
     | .sl sz' xs,.int _ i=>sz' = sz ∧ 0 ≤ i ∧ i < xs.length ∧ K (.sptr sz xs i.toNat 0)
     | .ar q off len,.int _ i=>match m[q]? with
       | some (.arr _ sz' _)=>sz' = sz ∧ 0 ≤ i ∧ i < len ∧ K (.eptr q (off + i.toNat) 0)
       | _=>False
     | _,_=>False
   | none=>False
 | none=>False
def indexVC (P : Program) (t : TypeId) (x y : V) (K : V → Prop) : Prop:=match x,y with
 | .str s,.int _ i=>isStrT P t = true ∧ 0 ≤ i ∧ i < s.size ∧ K (.int .u8 (byteAt s i.toNat))
 | _,_=>False
def extrVC (x : V) (i : Nat) (K : V → Prop) : Prop:=match x with
 | .tup vs=>i < vs.length ∧ K (vs.getD i .junk)
 | _=>False
def lenVC (P : Program) (t : TypeId) (m : List Ob) (x : V) (K : V → Prop) : Prop:=match x with
 | .str s=>isStrT P t = true ∧ K (.int .i64 s.size)
 | .sl _ xs=>(elt P t).isSome = true ∧ K (.int .i64 xs.length)
 | .ar q _ len=>match m[q]? with
   | some (.arr _ _ _)=>(elt P t).isSome = true ∧ K (.int .i64 len)
   | _=>False
 | .arc q _ len _=>match m[q]? with
   | some (.arr _ _ _)=>(elt P t).isSome = true ∧ K (.int .i64 len)
   | _=>False
 | .nil=>(elt P t).isSome = true ∧ K (.int .i64 0)
 | _=>False
def capVC (P : Program) (t : TypeId) (m : List Ob) (x : V) (K : V → Prop) : Prop:=match x with
 | .arc q _ _ cap=>match m[q]? with
   | some (.arr _ _ _)=>(elt P t).isSome = true ∧ K (.int .i64 cap)
   | _=>False
 | _=>False
def biVC (P : Program) (b : Builtin) (ts : Array TypeId) (m : List Ob) (xs : List V) (K : V → Prop) : Prop:=match b,xs with
 | .len,[x]=>match ts.toList with
   | [t]=>lenVC P t m x K
   | _=>False
 | .cap,[x]=>match ts.toList with
   | [t]=>capVC P t m x K
   | _=>False
 | .min,[x,y]=>match mm false x y with
   | some r=>K r
   | none=>False
 | .max,[x,y]=>match mm true x y with
   | some r=>K r
   | none=>False
 | _,_=>False
def srcV (m : List Ob) (sz : Nat) : V → Option (List (List V))
 | .str s=>if sz = 1 then some (bytesV s) else none
 | y=>elemsV m y
def ap0VC (P : Program) (t t' : TypeId) (m : List Ob) (base : Nat) (x y : V) (K : V → List Ob → Prop) : Prop:=match elt P t with
 | some e=>match lay P e,zer P e with
   | some (sz,_),some zs=>match srcV m sz y with
     | some ys=>0 < sz ∧ zs.length = sz ∧ seqT P t' = true ∧ (x = .nil ∨ x = .e0) ∧ (∀ z ∈ ys,z.length = sz) ∧ ys.length * P.bytesOf e ≤ 2 ^ 47 ∧ ys.length ≤ 2 ^ 62 ∧ K (.ar base 0 ys.length) [.arr true sz ys]
     | none=>False
   | _,_=>False
 | none=>False
def apVC (P : Program) (c : Call) (ev : Operand → V) (m : List Ob) (base : Nat) (K : V → List Ob → Prop) : Prop:=match c.args.toList,c.argTypes.toList with
 | [x,y],[t,t']=>ap0VC P t t' m base (ev x) (ev y) K
 | _,_=>False
def cVC (P : Program) (c : Call) (ev : Operand → V) (m : List Ob) (base : Nat) (K : V → List Ob → Prop) : Prop:=match c.callee with
 | .builtin .append=>apVC P c ev m base K
 | .builtin b=>biVC P b c.argTypes m (c.args.toList.map ev) (fun r=>K r [])
 | .value x=>match ev x with
   | .fn f fs cs=>callVC P f (fs ++ c.args.toList.map ev ++ cs) m base K
   | _=>False
 | .invoke _ _=>False
def Q1 (P : Program) (op : Op) (ev : Operand → V) (m : List Ob) (base : Nat) (K : V → List Ob → Prop) : Prop:=match op with
 | .move x=>K (ev x) []
 | .assign x=>K (ev x) []
 | .pick c a b=>match ev c with
   | .bool t=>K (if t then ev a else ev b) []
   | _=>False
 | .alloc e=>match zer P e with
   | some cs=>K (.ptr base 0) [.box true cs]
   | none=>False
 | .box _ x=>boxVC m base K (ev x)
 | .build t ps=>buildVC P t m ev ps.toList K
 | .buildSlice t len ps=>bslVC P t len m base ev ps.toList K
 | .load t x=>ldVC P t m (ev x) (fun r=>K r [])
 | .nilCheck x=>(ev x).notNil = true ∧ oneV m (ev x) = true ∧ K (ev x) []
 | .binOp op t x y _=>binVC P op t (ev x) (ev y) (fun r=>K r [])
 | .unOp op _ x=>unVC op (ev x) (fun r=>K r [])
 | .convert s d x=>cnvVC P s d m base (ev x) K
 | .makeFunc fn fs cs=>mkfVC ev fn fs cs (fun r=>K r [])
 | .makeMap t r=>r = none ∧ K (.map base) [.mp true [] []]
 | .makeSlice t x y=>mksVC P t base (ev x) (ev y) K
 | .slice t x lo hi mx=>sliceVC P t m ev (ev x) lo hi mx (fun r=>K r [])
 | .fieldAddr s x f=>faddrVC P s f m (ev x) (fun r=>K r [])
 | .field t x f=>fieldVC P t f (ev x) (fun r=>K r [])
 | .indexAddr t x y=>iaddrVC P t m (ev x) (ev y) (fun r=>K r [])
 | .index t x y=>indexVC P t (ev x) (ev y) (fun r=>K r [])
 | .extract x i=>extrVC (ev x) i (fun r=>K r [])
 | .lookup t x y ok=>lkVC P t m (ev x) (ev y) ok (fun r=>K r [])
 | .call c=>cVC P c ev m base K
 | _=>False
section
variable {P : Program} {o : Oper} {ev : Operand → V} {mT : List Ob} {base : Nat} {K : V → List Ob → Prop}
theorem bslice_sound {t : TypeId} {len : Nat} {ps : Array (Nat × Operand)} (ho : o.op = .buildSlice t len ps) (h : bsliceVC P t len mT base ev ps.toList K) : Goal P o ev mT base K:=by
 unfold bsliceVC at h
 split at h
 ·rename_i e he
  split at h
  ·rename_i sz ag zs h1 h2
   split at h
   ·rename_i xs h3; exact q_buildSlice ho he h1 h.1 h2 h3 h.2.1 h.2.2.1 h.2.2.2
   ·exact h.elim
  ·exact h.elim
 ·exact h.elim
theorem src_of {sz : Nat} {y : V} {ys : List (List V)} (h : srcV mT sz y = some ys) (hl : ∀ z ∈ ys,z.length = sz) : Src P mT sz y ys:=by
 unfold srcV at h
 split at h
 ·split at h
  ·rename_i hs; subst hs
   simp only [Option.some.injEq] at h; subst h
   exact src_str
  ·cases h
 ·exact src_elems h hl
theorem ap_sound {c : Call} (ho : o.op = .call c) (hc : c.callee = .builtin .append) (h : apVC P c ev mT base K) : Goal P o ev mT base K:=by
 obtain ⟨callee,args,ts⟩:=c
 simp only at hc
 subst hc
 unfold apVC at h
 split at h
 ·rename_i x y t t' ha ht
  simp only at ha ht
  have hargs : args = #[x,y]:=by obtain ⟨l⟩:=args; simp at ha; subst ha; rfl
  have hts : ts = #[t,t']:=by obtain ⟨l⟩:=ts; simp at ht; subst ht; rfl
  subst hargs; subst hts
  unfold ap0VC at h
  split at h
  ·rename_i e he
   split at h
   ·rename_i sz ag zs hl hz
    split at h
    ·rename_i ys hy
     obtain ⟨a1,a2,a3,a4,a5,a6,a7,a8⟩:=h
     exact q_append0 ho he hl a1 hz a2 a3 a4 (src_of hy a5) a5 a6 a7 a8
    ·exact h.elim
   ·exact h.elim
  ·exact h.elim
 ·exact h.elim
theorem Q1_sound (h : Q1 P o.op ev mT base K) : Goal P o ev mT base K:=by
 cases ho : o.op <;> rw [ho] at h <;> simp only [Q1] at h
 case move x=>exact q_move ho h
 case assign x=>exact q_assign ho h
 case pick c a b =>
  split at h
  ·rename_i t hc; exact q_pick ho hc h
  ·exact h.elim
 case alloc e =>
  split at h
  ·rename_i cs hz; exact q_alloc ho hz h
  ·exact h.elim
 case box e x =>
  unfold boxVC at h
  split at h
  ·rename_i cs hc; exact q_box ho hc h
  ·exact q_box1 ho h.1 h.2
 case build t ps =>
  unfold buildVC at h
  split at h
  ·rename_i zs ps' h1 h2
   split at h
   ·rename_i cs h3; exact q_build ho h1 h.1 h2 h3 h.2
   ·exact h.elim
  ·exact h.elim
 case buildSlice t len ps =>
  unfold bslVC at h
  split at h
  ·rename_i hps
   split at h
   ·rename_i e he
    split at h
    ·rename_i p zs h1 h2
     obtain ⟨sz,ag⟩:=p
     exact q_build0 ho he h1 h2 hps h
    ·exact h.elim
   ·exact h.elim
  ·exact bslice_sound ho h
 case load t x=>exact q_load ho h
 case nilCheck x=>exact q_nilCheck ho h.1 h.2.1 h.2.2
 case binOp op t x y u =>
  unfold binVC at h
  split at h
  ·rename_i r hr; exact q_bin ho hr h
  ·split at h
   ·rename_i r hr; exact q_binb ho h.1 hr h.2
   ·exact q_eqAgg ho h
 case unOp op t x =>
  unfold unVC at h
  split at h
  ·rename_i b hb; exact q_not ho hb h
  ·rename_i k n hb; exact q_neg ho hb h
  ·rename_i k n hb; exact q_xor ho hb h
  ·exact h.elim
 case convert s d x =>
  unfold cnvVC at h
  split at h
  ·rename_i tx hx
   split at h
   ·rename_i e1 he1; exact q_strBytes ho he1 h.1 h.2.1 hx h.2.2.1 h.2.2.2
   ·exact h.elim
  unfold convVC at h
  split at h
  ·rename_i k' n hx
   split at h
   ·rename_i k hk; exact q_conv ho h.1 hk hx h.2
   ·exact h.elim
  ·obtain ⟨ns,e,h1,h2,h3,h4,h5⟩:=h
   exact q_bytesStr ho h1 h2 h3 h4 h5
 case makeFunc fn fs cs =>
  unfold mkfVC at h
  split at h
  ·exact q_makeFunc ho h
  ·exact h.elim
 case makeMap t r=>exact q_makeMap ho (.inl h.1) h.2
 case makeSlice t x y =>
  unfold mksVC at h
  split at h
  ·rename_i e he
   split at h
   ·rename_i sz ag zs h1 h2
    split at h
    ·rename_i k n k' n' h3 h4
     obtain ⟨rfl,a1,a2,a3,a4,a5,a6⟩:=h
     exact q_makeSlice ho he h1 a1 h2 a2 h3 h4 a3 a4 a5 a6
    ·exact h.elim
   ·exact h.elim
  ·exact h.elim
 case slice t x lo hi mx =>
  unfold sliceVC at h
  split at h
  ·split at h
   ·split at h
    ·rename_i q off len cap hx
     split at h
     ·rename_i e he
      split at h
      ·rename_i sz' ag kl l kh hh km k lv sz xs h0 h1 h2 h3 h4
       obtain ⟨rfl,a1,a2,a3,a4,a5⟩:=h
       exact q_slice3 ho he h0 hx h4 h1 h2 h3 a1 a2 a3 a4 a5
      ·exact h.elim
     ·exact h.elim
    ·exact h.elim
   ·exact h.elim
  ·split at h
   ·rename_i s hx
    split at h
    ·rename_i l hh h1 h2
     exact q_slice_str ho h.1 hx h1 h2 h.2.1 h.2.2.1 h.2.2.2.1 h.2.2.2.2
    ·exact h.elim
   ·rename_i sz xs hx
    split at h
    ·rename_i e he
     split at h
     ·rename_i sz' ag l hh h0 h1 h2
      obtain ⟨rfl,a1,a2,a3,a4⟩:=h
      exact q_slice_sl ho he h0 hx h1 h2 a1 a2 a3 a4
     ·exact h.elim
    ·exact h.elim
   ·rename_i q off len hx
    split at h
    ·rename_i e he
     split at h
     ·rename_i sz' ag l hh lv sz xs h0 h1 h2 h3
      obtain ⟨rfl,a1,a2,a3,a4⟩:=h
      exact q_slice_ar ho he h0 hx h3 h1 h2 a1 a2 a3 a4
     ·exact h.elim
    ·exact h.elim
   ·rename_i q off len cap hx
    split at h
    ·rename_i e he
     split at h
     ·rename_i sz' ag l hh lv sz xs h0 h1 h2 h3
      obtain ⟨rfl,a1,a2,a3,a4,a5⟩:=h
      exact q_slice_arc ho he h0 hx h3 h1 h2 a1 a2 a3 a4 a5
     ·exact h.elim
    ·exact h.elim
   ·rename_i hx
    split at h
    ·rename_i e he
     split at h
     ·rename_i lz l hh h0 h1 h2
      obtain ⟨rfl,rfl,a4⟩:=h
      obtain ⟨sz,ag⟩:=lz
      exact q_slice_nil ho he h0 hx h1 h2 a4
     ·exact h.elim
    ·exact h.elim
   ·exact h.elim
 case fieldAddr s x f =>
  unfold faddrVC at h
  split at h
  ·rename_i off n ag hf
   split at h
   ·rename_i r hr; exact q_fieldAddr ho hf h.1 hr h.2.1 h.2.2
   ·exact h.elim
  ·exact h.elim
 case field t x f =>
  unfold fieldVC at h
  split at h
  ·rename_i off n ag hf
   split at h
   ·rename_i cs hc; exact q_field ho hf hc h
   ·exact h.elim
  ·exact h.elim
 case indexAddr t x y =>
  unfold iaddrVC at h
  split at h
  ·rename_i e he
   split at h
   ·rename_i sz ag hl
    split at h
    ·rename_i sz' xs k i h1 h2
     obtain ⟨rfl,a1,a2,a3⟩:=h
     exact q_index_sl ho he hl h1 h2 a1 a2 a3
    ·rename_i q off len k i h1 h2
     split at h
     ·rename_i lv sz' xs h3
      obtain ⟨rfl,a1,a2,a3⟩:=h
      exact q_index_ar ho he hl h1 h3 h2 a1 a2 a3
     ·exact h.elim
    ·exact h.elim
   ·exact h.elim
  ·exact h.elim
 case index t x y =>
  unfold indexVC at h
  split at h
  ·rename_i s k i h1 h2
   exact q_index_str ho h.1 h1 h2 h.2.1 h.2.2.1 h.2.2.2
  ·exact h.elim
 case lookup t x y ok=>exact q_lookup ho h
 case extract x i =>
  unfold extrVC at h
  split at h
  ·rename_i vs hv; exact q_extract ho hv h.1 h.2
  ·exact h.elim
 case call c =>
  obtain ⟨callee,args,ts⟩:=c
  unfold cVC at h
  cases callee with
  | invoke r n=>exact h.elim
  | value x =>
   simp only at h
   split at h
   ·rename_i f fs cs hf
    have hbd : bodyOK P f = true → ∃ fn, P.funcs[f]? = some fn ∧ fn.body.isSome = true ∧ (fn.name == "runtime.NumGoroutine") = false := by
     intro a4
     unfold bodyOK at a4
     split at a4
     ·rename_i fn hfn
      simp only [Zu,Yc] at a4
      exact ⟨fn,hfn,a4.1,a4.2⟩
     ·cases a4
    rcases h with ⟨r,mr,a1,a3,a4,a5⟩ | ⟨r,mr,n,a1,a2,b1,b2,a4,a5⟩
    rotate_left
    ·exact q_callD n ho hf (hbd a4) a2 a1 b1 b2 a5
    replace hbd:=hbd a4
    rcases a1 with ⟨as',a0,a1,a2⟩ | ⟨a1,a2,b1,b2⟩
    ·exact q_call ho hf hbd a0 a2 a1 a3 a5
    ·exact q_callF ho hf hbd a2 a1 b1 b2 a3 a5
   ·exact h.elim
  | builtin b =>
   by_cases hba : b = .append
   ·subst hba
    exact ap_sound ho rfl h
   replace h : biVC P b ts mT (args.toList.map ev) (fun r=>K r []):=by
    cases b <;> first | exact absurd rfl hba | exact h
   unfold biVC at h
   split at h
   ·rename_i b' xs x hxs
    split at h
    ·rename_i t ht
     have hargs : ∃ y,args = #[y] ∧ ev y = x:=by
      have:=congrArg List.length hxs
      obtain ⟨l⟩:=args
      match l,hxs with
      | [y],hxs=>exact ⟨y,rfl,by simpa using hxs⟩
     obtain ⟨y,rfl,hy⟩:=hargs
     have hts : ts = #[t]:=by
      obtain ⟨l⟩:=ts
      simp at ht; subst ht; rfl
     subst hts
     unfold lenVC at h
     subst hy
     split at h
     ·rename_i s hs
      exact q_len ho (.inl h.1) (by rw [hs]; rfl) (by rw [hs]; exact ⟨h.1,rfl⟩) h.2
     ·rename_i sz zs hs
      exact q_len ho (.inr h.1) (by rw [hs]; rfl) (by rw [hs]; exact ⟨h.1,rfl⟩) h.2
     ·rename_i q off len hs
      split at h
      ·rename_i lv sz zs hq
       exact q_len ho (.inr h.1) (by rw [hs]; rfl) (by rw [hs]; exact ⟨h.1,rfl,lv,sz,zs,hq⟩) h.2
      ·exact h.elim
     ·rename_i q off len cap hs
      split at h
      ·rename_i lv sz zs hq
       exact q_len ho (.inr h.1) (by rw [hs]; rfl) (by rw [hs]; exact ⟨h.1,rfl,lv,sz,zs,hq⟩) h.2
      ·exact h.elim
     ·rename_i hs
      exact q_len ho (.inr h.1) (by rw [hs]; rfl) (by rw [hs]; exact ⟨h.1,rfl⟩) h.2
     ·exact h.elim
    ·exact h.elim
   ·rename_i b' xs x hxs
    split at h
    ·rename_i t ht
     have hargs : ∃ y,args = #[y] ∧ ev y = x:=by
      have:=congrArg List.length hxs
      obtain ⟨l⟩:=args
      match l,hxs with
      | [y],hxs=>exact ⟨y,rfl,by simpa using hxs⟩
     obtain ⟨y,rfl,hy⟩:=hargs
     have hts : ts = #[t]:=by
      obtain ⟨l⟩:=ts
      simp at ht; subst ht; rfl
     subst hts
     unfold capVC at h
     subst hy
     split at h
     ·rename_i q off len cap hs
      split at h
      ·rename_i lv sz zs hq
       exact q_cap ho h.1 hs hq h.2
      ·exact h.elim
     ·exact h.elim
    ·exact h.elim
   ·rename_i b' xs x y hxs
    split at h
    ·rename_i r hr
     have hargs : ∃ x' y',args = #[x',y'] ∧ ev x' = x ∧ ev y' = y:=by
      obtain ⟨l⟩:=args
      match l,hxs with
      | [x',y'],hxs=>simp at hxs; exact ⟨x',y',rfl,hxs.1,hxs.2⟩
     obtain ⟨x',y',rfl,rfl,rfl⟩:=hargs
     exact q_mm (gt:=false) ho hr h
    ·exact h.elim
   ·rename_i b' xs x y hxs
    split at h
    ·rename_i r hr
     have hargs : ∃ x' y',args = #[x',y'] ∧ ev x' = x ∧ ev y' = y:=by
      obtain ⟨l⟩:=args
      match l,hxs with
      | [x',y'],hxs=>simp at hxs; exact ⟨x',y',rfl,hxs.1,hxs.2⟩
     obtain ⟨x',y',rfl,rfl,rfl⟩:=hargs
     exact q_mm (gt:=true) ho hr h
    ·exact h.elim
   ·exact h.elim
end
end Go.Pm
end
section
namespace Go.Pm
open Go.RowKit
def frz1 (m : List Ob) (q : Nat) : List Ob:=match m[q]? with
 | some ob=>m.set q ob.still
 | none=>m
def frzM : List Nat → List Ob → List Ob
 | [],m=>m
 | q :: qs,m=>frzM qs (frz1 m q)
section
variable {w : World} {Zo : Nat → Prop} {m : List Ob} {β : List Lc}
theorem Ob.still_blk (ob : Ob) (l : Lc) : ob.still.blk l = none:=by cases ob <;> rfl
theorem Ob.still_le (ob : Ob) (l : Lc) : obLe (some ob) (some l) (some ob.still) (some l):=by
 cases ob with
 | hole=>trivial
 | dead=>rfl
 | box lv cs=>exact .inr ⟨_,_,_,rfl,rfl,rfl⟩
 | arr lv sz xs=>exact .inr ⟨_,_,rfl,rfl,Zk _⟩
 | mp lv ks vs=>exact .inr ⟨_,_,_,_,rfl,rfl,rfl⟩
theorem Mem.frz1 (M : Mem w Zo m β) (q : Nat) : Mem w Zo (frz1 m q) β ∧ (cx w Zo m β).le (cx w Zo (frz1 m q) β) ∧ ∀ b,liveAt (Pm.frz1 m q) β b → liveAt m β b:=by
 unfold Pm.frz1
 cases hm : m[q]? with
 | none=>exact ⟨M,⟨fun b h=>⟨h,rfl⟩,fun o _=>obLe_refl _ _⟩,fun _ h=>h⟩
 | some ob =>
  obtain ⟨l,hl,hok⟩:=M.at_ hm
  have:=M.turn (w':=w) (ob':=ob.still) hm hl (ob.still_le l) (fun b h=>by rw [ob.still_blk] at h; cases h) rfl (fun _ _ _=>rfl) (fun hle hz=>by
   have hk:=hok.mono (c':=cx w Zo (m.set q ob.still) β) hle (fun b hb=>rfl)
   cases ob with
   | hole=>trivial
   | dead=>trivial
   | box lv cs =>
    obtain ⟨us,e,fr,h1,h2,h3,h4,h5⟩:=hk
    refine ⟨us,e,fr,h1,h2,h3,h4,.inr ?_⟩
    cases lv with
    | true=>exact hz _ rfl rfl
    | false=>exact h5.resolve_left (by simp)
   | arr lv sz xs =>
    obtain ⟨g1,g2,g3,g4⟩:=hk
    refine ⟨g1,g2,g3,?_⟩
    by_cases hc : l.cap = 0
    ·exact .inl hc
    ·obtain ⟨us,e,fr,h1,h2,h3,h4,h5⟩:=g4.resolve_left hc
     refine .inr ⟨us,e,fr,h1,h2,h3,h4,.inr ?_⟩
     cases lv with
     | true=>exact hz _ (by simp [Ob.blk,hc]) rfl
     | false=>exact h5.resolve_left (by simp)
   | mp lv ks vs =>
    obtain ⟨es,n,h1,h2,h3,hb,h5⟩:=hk
    refine ⟨es,n,h1,h2,h3,hb,.inr ?_⟩
    cases lv with
    | true=>exact hz _ rfl rfl
    | false=>exact h5.resolve_left (by simp))
  refine ⟨this.1,this.2,?_⟩
  rintro b ⟨o1,ob1,l1,h1,h2,h3⟩
  rcases getElem?_set_some h1 with ⟨_,rfl,_⟩ | ⟨_,h1⟩
  ·rw [ob.still_blk] at h3; cases h3
  ·exact ⟨o1,ob1,l1,h1,h2,h3⟩
theorem Cx.le_refl (c : Cx) : c.le c:=⟨fun b h=>⟨h,rfl⟩,fun o _=>obLe_refl _ _⟩
theorem Mem.frz : ∀ (qs : List Nat) {m : List Ob},Mem w Zo m β → Mem w Zo (frzM qs m) β ∧ (cx w Zo m β).le (cx w Zo (frzM qs m) β) ∧ ∀ b,liveAt (frzM qs m) β b → liveAt m β b
 | [],m,M=>⟨M,Cx.le_refl _,fun _ h=>h⟩
 | q :: qs,m,M=>by
   obtain ⟨M1,h1,l1⟩:=M.frz1 q
   obtain ⟨M2,h2,l2⟩:=Mem.frz qs M1
   exact ⟨M2,h1.trans h2,fun b h=>l1 b (l2 b h)⟩
theorem frzM_length : ∀ (qs : List Nat) (m : List Ob),(frzM qs m).length = m.length
 | [],m=>rfl
 | q :: qs,m=>by
   simp only [frzM]
   rw [frzM_length qs]
   unfold Pm.frz1
   split <;> simp
end
section
variable {w : World} {Zo : Nat → Prop} {m : List Ob} {β : List Lc}
mutual
theorem conv_sound (M : Mem w Zo m β) : ∀ (x : V) (v : Value),RV (cx w Zo m β) x v → RV (cx w Zo m β) (conv m x) v
 | .ar q off len,v,h=>by
   unfold conv
   split
   ·rename_i sz xs hm
    obtain ⟨_,l,hl,⟨g1,g2,g3,g4⟩,hle,A,e,hA⟩:=at_ar M (Agree.refl m) hm h
    have hlen : ((xs.drop off).take len).length = len:=by simp; omega
    refine ⟨A,l.cap - off,by rw [hlen]; exact e,by rw [hlen]; omega,by rw [hlen]; omega,?_⟩
    by_cases h0 : len = 0
    ·exact .inl (Zn (by rw [hlen,h0]))
    ·refine .inr ?_
     rcases g4 with g4 | ⟨us,e',fr,h1,h2,h3,h4,h5⟩
     ·omega
     ·refine ⟨l.b,off * sz,hA (by omega),h5.resolve_left (by simp),?_⟩
      have:=(h4.drop off).take len
      rwa [Zl] at this
   ·exact h
 | .ptr q off,v,h=>by
   unfold conv
   split
   ·rename_i cs hm
    obtain ⟨_,l,hl,⟨us,e',fr,h1,h2,h3,h4,h5⟩,e⟩:=at_ptr M (Agree.refl m) hm h (by simp)
    exact ⟨l.b,e,h5.resolve_left (by simp),h4⟩
   ·exact h
 | .eptr q i off,v,h=>by
   unfold conv
   split
   ·rename_i sz xs hm
    split
    ·obtain ⟨_,l,hl,⟨g1,g2,g3,g4⟩,e⟩:=at_eptr M (Agree.refl m) hm h
     rcases g4 with g4 | ⟨us,e',fr,h1,h2,h3,h4,h5⟩
     ·omega
     ·exact ⟨l.b,0,by rw [Zl]; exact e,h5.resolve_left (by simp),h4⟩
    ·trivial
   ·exact h
 | .map q,v,h=>by
   unfold conv
   split
   ·rename_i ks vs hm
    obtain ⟨_,l,hl,⟨es,n,h1,h2,h3,_,h5⟩,e⟩:=at_map M (Agree.refl m) hm h
    exact ⟨l.b,es,n,e,h5.resolve_left (by simp),h1,h2,h3⟩
   ·exact h
 | .agg cs,v,⟨us,e,h⟩=>⟨us,e,convs_sound M cs us.toList h⟩
 | .tup cs,v,⟨us,e,h⟩=>⟨us,e,convs_sound M cs us.toList h⟩
 | .fn f fs cs,v,⟨us,vs,e,h1,h2⟩=>⟨us,vs,e,convs_sound M fs us.toList h1,convs_sound M cs vs.toList h2⟩
 | .junk,v,h=>trivial
 | .int k n,v,h=>h
 | .bool b,v,h=>h
 | .str s,v,h=>h
 | .nil,v,h=>h
 | .e0,v,h=>h
 | .np,v,h=>h
 | .arc _ _ _ _,v,h=>trivial
 | .sl sz xs,v,h=>h
 | .sptr sz xs i off,v,h=>h
 | .fptr cs off,v,h=>h
 | .fmap ks vs,v,h=>h
theorem convs_sound (M : Mem w Zo m β) : ∀ (xs : List V) (us : List Value),RVs (cx w Zo m β) xs us → RVs (cx w Zo m β) (convs m xs) us
 | [],us,h=>h
 | x :: xs,us,⟨u,us',e,h1,h2⟩=>⟨u,us',e,conv_sound M x u h1,convs_sound M xs us' h2⟩
end
/- the section of the memory ends here -/
end
def idx : List Nat → Nat → Nat
 | [],_=>0
 | k :: ks,q=>if k = q then 0 else idx ks q + 1
theorem idx_get : ∀ {ks : List Nat} {q : Nat},q ∈ ks → ks[idx ks q]? = some q
 | k :: ks,q,h=>by
   unfold idx
   split
   ·rename_i e; subst e; rfl
   ·rename_i e
    rcases ZI.1 h with rfl | h
    ·exact absurd rfl e
    ·simpa using idx_get h
theorem idx_of {ks : List Nat} (hn : ks.Nodup) {i q : Nat} (h : ks[i]? = some q) : idx ks q = i:=by
 have h1:=idx_get (ZS h)
 exact (YJ (Zc.1 h1).1 hn).1 (h1.trans h.symm)
theorem obLe_ren' (ρ : Nat → Nat) {x z : Option Ob} {y u : Option Lc} (h : obLe x y z u) : obLe x y (z.map (Ob.ren ρ)) u:=by
 cases x with
 | none=>cases y <;> trivial
 | some ob =>
  cases y with
  | none =>
   cases ob <;> first | trivial | skip
   have h : z = some .dead:=h
   rw [h]; rfl
  | some l =>
   cases ob with
   | hole=>trivial
   | dead=>have h : z = some .dead:=h; rw [h]; rfl
   | box lv cs =>
    rcases h with h | ⟨lv',cs',l',h,h',e⟩
    ·rw [h]; exact .inl rfl
    ·rw [h]; exact .inr ⟨_,_,l',rfl,h',e⟩
   | arr lv sz xs =>
    rcases h with h | ⟨lv',xs',h,h',e⟩
    ·rw [h]; exact .inl rfl
    ·rw [h]; exact .inr ⟨_,_,rfl,h',by rw [renss_length]; exact e⟩
   | mp lv ks vs =>
    rcases h with h | ⟨lv',ks',vs',l',h,h',e⟩
    ·rw [h]; exact .inl rfl
    ·rw [h]; exact .inr ⟨_,_,_,l',rfl,h',e⟩
theorem obLe_unren {ρ : Nat → Nat} {x z : Option Ob} {y u : Option Lc} (h : obLe (x.map (Ob.ren ρ)) y z u) : obLe x y z u:=by
 cases x with
 | none=>cases y <;> trivial
 | some ob =>
  cases y with
  | none=>cases ob <;> first | trivial | exact h
  | some l =>
   cases ob with
   | hole=>trivial
   | dead=>exact h
   | box lv cs=>exact h
   | arr lv sz xs =>
    rcases h with h | ⟨lv',xs',h,h',e⟩
    ·exact .inl h
    ·exact .inr ⟨_,_,h,h',by rwa [renss_length] at e⟩
   | mp lv ks vs=>exact h
def sel (ks : List Nat) (m : List Ob) : List Ob:=ks.map fun q=>(m.getD q .hole).ren (idx ks)
def selL (ks : List Nat) (β : List Lc) : List Lc:=ks.map fun q=>β.getD q ⟨0,0⟩
def others (ks : List Nat) (Zo : Nat → Prop) (m : List Ob) (β : List Lc) (b : Nat) : Prop:=Zo b ∨ ∃ (o : Nat) (ob : Ob) (l : Lc),o ∉ ks ∧ m[o]? = some ob ∧ β[o]? = some l ∧ ob.blk l = some b
section
variable {w : World} {Zo Zo' : Nat → Prop} {m : List Ob} {β : List Lc}
theorem sel_get {ks : List Nat} (hlt : ∀ q ∈ ks,q < m.length) (j : Nat) : (sel ks m)[j]? = (ks[j]?.bind fun q=>m[q]?).map (Ob.ren (idx ks)):=by
 unfold sel
 rw [Zf]
 cases hk : ks[j]? with
 | none=>rfl
 | some q =>
  have hq:=hlt q (ZS hk)
  simp [Zm,hq]
theorem selL_get {ks : List Nat} (hlt : ∀ q ∈ ks,q < β.length) (j : Nat) : (selL ks β)[j]? = ks[j]?.bind fun q=>β[q]?:=by
 unfold selL
 rw [Zf]
 cases hk : ks[j]? with
 | none=>rfl
 | some q =>
  have hq:=hlt q (ZS hk)
  simp [Zm,hq]
theorem Mem.sel (M : Mem w Zo m β) (ks : List Nat) (hn : ks.Nodup) (hlt : ∀ q ∈ ks,q < m.length) (hp : ∀ q ∈ ks,(m.getD q .hole).refs (· ∈ ks)) (hZ : ∀ b,Zo' b → Zo b ∨ liveAt m β b)
  (hO : ∀ q ob l b,q ∈ ks → m[q]? = some ob → β[q]? = some l → ob.blk l = some b → ¬ Zo' b) :
  Mem w Zo' (sel ks m) (selL ks β) ∧ Tr (cx w Zo m β) (cx w Zo' (Pm.sel ks m) (selL ks β)) (idx ks) (fun q=>q ∈ ks) ∧
   (∀ b,liveAt (Pm.sel ks m) (selL ks β) b → ∃ q ∈ ks,∃ ob l,m[q]? = some ob ∧ β[q]? = some l ∧ ob.blk l = some b):=by
 have hltb : ∀ q ∈ ks,q < β.length:=fun q hq=>by rw [M.len]; exact hlt q hq
 have g1 : ∀ (j : Nat) (ob : Ob),(Pm.sel ks m)[j]? = some ob → ∃ q ob',ks[j]? = some q ∧ m[q]? = some ob' ∧ ob = ob'.ren (idx ks):=by
  intro j ob h
  rw [sel_get hlt] at h
  cases hk : ks[j]? with
  | none=>rw [hk] at h; cases h
  | some q =>
   rw [hk] at h
   simp only [ZD] at h
   cases hm : m[q]? with
   | none=>rw [hm] at h; cases h
   | some ob' =>
    rw [hm] at h
    simp only [ZC,Option.some.injEq] at h
    exact ⟨q,ob',rfl,hm,h.symm⟩
 have g2 : ∀ (j : Nat) (l : Lc) (q : Nat),ks[j]? = some q → (selL ks β)[j]? = some l → β[q]? = some l:=by
  intro j l q hk h
  rw [selL_get hltb,hk] at h
  exact h
 have hlive : ∀ b,liveAt (Pm.sel ks m) (selL ks β) b → ∃ q ∈ ks,∃ ob l,m[q]? = some ob ∧ β[q]? = some l ∧ ob.blk l = some b:=by
  rintro b ⟨j,ob,l,h1,h2,h3⟩
  obtain ⟨q,ob',hk,hm,rfl⟩:=g1 j ob h1
  rw [Ob.ren_blk] at h3
  exact ⟨q,ZS hk,ob',l,hm,g2 j l q hk h2,h3⟩
 have hfz : ∀ b,(cx w Zo m β).fz b → (cx w Zo' (Pm.sel ks m) (selL ks β)).fz b:=by
  refine fun b h=>⟨h.1,?_⟩
  rintro (hz | hz)
  ·exact h.2 (hZ b hz)
  ·obtain ⟨q,_,ob,l,a1,a2,a3⟩:=hlive b hz
   exact h.2 (.inr ⟨q,ob,l,a1,a2,a3⟩)
 have htr : Tr (cx w Zo m β) (cx w Zo' (Pm.sel ks m) (selL ks β)) (idx ks) (fun q=>q ∈ ks):=by
  refine ⟨fun b h=>⟨hfz b h,rfl⟩,fun q hq=>?_⟩
  have hk:=idx_get hq
  have hql:=hlt q hq
  show obLe m[q]? β[q]? (Pm.sel ks m)[idx ks q]? (selL ks β)[idx ks q]?
  rw [sel_get hlt,selL_get hltb,hk]
  exact obLe_ren _ _ _
 refine ⟨⟨by simp [Pm.sel,selL],?_,?_,fun b h=>?_,fun b h=>?_⟩,htr,hlive⟩
 ·intro j ob l h1 h2
  obtain ⟨q,ob',hk,hm,rfl⟩:=g1 j ob h1
  have hβ:=g2 j l q hk h2
  have hpu:=hp q (ZS hk)
  rw [Zm,hm] at hpu
  exact OK.ren htr rfl hpu (M.ok q ob' l hm hβ)
 ·intro j j' ob ob' l l' b h1 h2 h3 h4 h5 h6
  obtain ⟨q,o1,hk,hm,rfl⟩:=g1 j ob h1
  obtain ⟨q',o2,hk',hm',rfl⟩:=g1 j' ob' h2
  rw [Ob.ren_blk] at h5 h6
  have e:=M.sep q q' o1 o2 l l' b hm hm' (g2 j l q hk h3) (g2 j' l' q' hk' h4) h5 h6
  subst e
  exact (YJ (Zc.1 hk).1 hn).1 (hk.trans hk'.symm)
 ·obtain ⟨q,hq,ob,l,a1,a2,a3⟩:=hlive b h
  exact hO q ob l b hq a1 a2 a3
 ·rcases hZ b h with h | h
  ·exact M.zlt b h
  ·exact M.live_lt h
end
def upd {α : Type} : List α → List Nat → List α → List α
 | l,k :: ks,x :: xs=>upd (l.set k x) ks xs
 | l,_,_=>l
theorem upd_length {α : Type} : ∀ (ks : List Nat) (l xs : List α),(upd l ks xs).length = l.length
 | [],l,xs=>by cases xs <;> rfl
 | k :: ks,l,[]=>rfl
 | k :: ks,l,x :: xs=>by rw [upd,upd_length ks]; simp
theorem upd_get {α : Type} : ∀ (ks : List Nat) (l xs : List α) (q : Nat),ks.Nodup → ks.length ≤ xs.length → (upd l ks xs)[q]? = if q ∈ ks ∧ q < l.length then xs[idx ks q]? else l[q]?
 | [],l,xs,q,_,_=>by simp [upd]
 | k :: ks,l,[],q,_,h=>by simp at h
 | k :: ks,l,x :: xs,q,hn,h=>by
   have hn':=List.nodup_cons.1 hn
   rw [upd,upd_get ks _ xs q hn'.2 (by simpa using h)]
   by_cases e : q = k
   ·subst e
    rw [if_neg (fun h=>hn'.1 h.1)]
    by_cases hl : q < l.length
    ·rw [if_pos ⟨Zx,hl⟩,Zi hl]
     simp [idx]
    ·rw [if_neg (fun h=>hl h.2),ZL (by simp; omega),ZL (by omega)]
   ·have e' : ¬ k = q:=fun h=>e h.symm
    by_cases hq : q ∈ ks ∧ q < l.length
    ·rw [if_pos (by simpa using hq),if_pos ⟨ZE _ hq.1,hq.2⟩]
     simp [idx,e']
    ·rw [if_neg (by simpa using hq),Zj e',if_neg]
     rintro ⟨h1,h2⟩
     rcases ZI.1 h1 with h1 | h1
     ·exact e h1
     ·exact hq ⟨h1,h2⟩
def sg (ks : List Nat) (N i : Nat) : Nat:=match ks[i]? with
 | some q=>q
 | none=>N + (i - ks.length)
def bk {α : Type} (m : List α) (ks : List Nat) (m' : List α) : List α:=upd m ks m' ++ m'.drop ks.length
theorem bk_get {α : Type} {m m' : List α} {ks : List Nat} (hn : ks.Nodup) (hlen : ks.length ≤ m'.length) (q : Nat) :
  (bk m ks m')[q]? = if q < m.length then (if q ∈ ks then m'[idx ks q]? else m[q]?) else m'[ks.length + (q - m.length)]?:=by
 unfold bk
 by_cases h : q < m.length
 ·rw [if_pos h,Ze (by rw [upd_length]; exact h),upd_get _ _ _ _ hn hlen]
  by_cases hq : q ∈ ks
  ·rw [if_pos ⟨hq,h⟩,if_pos hq]
  ·rw [if_neg (fun x=>hq x.1),if_neg hq]
 ·rw [if_neg h,Zd (by rw [upd_length]; omega),upd_length,List.getElem?_drop]
theorem bk_length {α : Type} {m m' : List α} {ks : List Nat} : (bk m ks m').length = m.length + (m'.length - ks.length):=by simp [bk,upd_length]
section
variable {w w' : World} {Zo : Nat → Prop} {m m' : List Ob} {β β' : List Lc} {ks : List Nat} {L : Nat → Prop}
theorem Mem.back (M : Mem w Zo m β) (hn : ks.Nodup) (hlt : ∀ q ∈ ks,q < m.length) (hlen : ks.length ≤ m'.length) (F : Frame L w w')
  (hL : ∀ b,L b → ∃ q ∈ ks,∃ ob l,m[q]? = some ob ∧ β[q]? = some l ∧ ob.blk l = some b) (M' : Mem w' (others ks Zo m β) m' β')
  (hp : ∀ (i q : Nat),ks[i]? = some q → obLe m[q]? β[q]? m'[i]? β'[i]?) (hl : ∀ b,liveAt m' β' b → L b ∨ w.heap.size ≤ b) :
  Mem w' Zo (bk m ks (m'.map (Ob.ren (sg ks m.length)))) (bk β ks β') ∧ (cx w Zo m β).le (cx w' Zo (bk m ks (m'.map (Ob.ren (sg ks m.length)))) (bk β ks β')) ∧
   Tr (cx w' (others ks Zo m β) m' β') (cx w' Zo (bk m ks (m'.map (Ob.ren (sg ks m.length)))) (bk β ks β')) (sg ks m.length) (fun _=>True) ∧
   (∀ b,liveAt (bk m ks (m'.map (Ob.ren (sg ks m.length)))) (bk β ks β') b → liveAt m β b ∨ w.heap.size ≤ b):=by
 generalize hσ : sg ks m.length = σ
 have hlenb : ks.length ≤ β'.length:=by rw [M'.len]; exact hlen
 have gm : ∀ q,(bk m ks (m'.map (Ob.ren σ)))[q]? = if q < m.length then (if q ∈ ks then m'[idx ks q]?.map (Ob.ren σ) else m[q]?) else m'[ks.length + (q - m.length)]?.map (Ob.ren σ):=fun q=>by
  rw [bk_get hn (by simpa using hlen)]
  simp only [Zf]
 have gβ : ∀ q,(bk β ks β')[q]? = if q < m.length then (if q ∈ ks then β'[idx ks q]? else β[q]?) else β'[ks.length + (q - m.length)]?:=fun q=>by
  rw [bk_get hn hlenb,M.len]
 have hσ1 : ∀ i q,ks[i]? = some q → σ i = q:=by
  intro i q h
  rw [← hσ]; unfold sg; rw [h]
 have hσ2 : ∀ i,ks.length ≤ i → σ i = m.length + (i - ks.length):=by
  intro i h
  rw [← hσ]; unfold sg; rw [ZL h]
 have gs : ∀ i,i < m'.length → (bk m ks (m'.map (Ob.ren σ)))[σ i]? = m'[i]?.map (Ob.ren σ) ∧ (bk β ks β')[σ i]? = β'[i]?:=by
  intro i hi
  rcases ZN i ks.length with h | h
  ·have hk : ks[i]? = some ks[i]:=Zy h
   have hmem : ks[i] ∈ ks:=List.getElem_mem h
   rw [hσ1 i _ hk,gm,gβ,if_pos (hlt _ hmem),if_pos hmem,idx_of hn hk,if_pos (hlt _ hmem),if_pos hmem]
   exact ⟨rfl,rfl⟩
  ·rw [hσ2 i h,gm,gβ,if_neg (by omega),if_neg (by omega),show ks.length + (m.length + (i - ks.length) - m.length) = i by omega]
   exact ⟨rfl,rfl⟩
 have cls : ∀ (q : Nat) (ob : Ob) (l : Lc),(bk m ks (m'.map (Ob.ren σ)))[q]? = some ob → (bk β ks β')[q]? = some l →
   (q ∉ ks ∧ m[q]? = some ob ∧ β[q]? = some l) ∨ ∃ i ob0,q = σ i ∧ m'[i]? = some ob0 ∧ ob = ob0.ren σ ∧ β'[i]? = some l:=by
  intro q ob l h1 h2
  rw [gm] at h1
  rw [gβ] at h2
  have mk : ∀ i,σ i = q → m'[i]?.map (Ob.ren σ) = some ob → β'[i]? = some l → ∃ i ob0,q = σ i ∧ m'[i]? = some ob0 ∧ ob = ob0.ren σ ∧ β'[i]? = some l:=by
   intro i e h3 h4
   cases hm : m'[i]? with
   | none=>rw [hm] at h3; cases h3
   | some ob0 =>
    rw [hm] at h3
    simp only [ZC,Option.some.injEq] at h3
    exact ⟨i,ob0,e.symm,hm,h3.symm,h4⟩
  by_cases hq : q < m.length
  ·rw [if_pos hq] at h1 h2
   by_cases hk : q ∈ ks
   ·rw [if_pos hk] at h1 h2
    exact .inr (mk (idx ks q) (hσ1 _ _ (idx_get hk)) h1 h2)
   ·rw [if_neg hk] at h1 h2
    exact .inl ⟨hk,h1,h2⟩
  ·rw [if_neg hq] at h1 h2
   exact .inr (mk _ (by rw [hσ2 _ (by omega)]; omega) h1 h2)
 have hlive : ∀ b,liveAt (bk m ks (m'.map (Ob.ren σ))) (bk β ks β') b → (∃ o ob l,o ∉ ks ∧ m[o]? = some ob ∧ β[o]? = some l ∧ ob.blk l = some b) ∨ liveAt m' β' b:=by
  rintro b ⟨q,ob,l,h1,h2,h3⟩
  rcases cls q ob l h1 h2 with ⟨a0,a1,a2⟩ | ⟨i,ob0,_,a1,rfl,a2⟩
  ·exact .inl ⟨q,ob,l,a0,a1,a2,h3⟩
  ·rw [Ob.ren_blk] at h3
   exact .inr ⟨i,ob0,l,a1,a2,h3⟩
 have hliveM : ∀ b,liveAt (bk m ks (m'.map (Ob.ren σ))) (bk β ks β') b → liveAt m β b ∨ w.heap.size ≤ b:=by
  intro b hb
  rcases hlive b hb with ⟨o,ob,l,_,a1,a2,a3⟩ | h
  ·exact .inl ⟨o,ob,l,a1,a2,a3⟩
  ·rcases hl b h with h | h
   ·obtain ⟨q,_,ob,l,a1,a2,a3⟩:=hL b h
    exact .inl ⟨q,ob,l,a1,a2,a3⟩
   ·exact .inr h
 have hle : (cx w Zo m β).le (cx w' Zo (bk m ks (m'.map (Ob.ren σ))) (bk β ks β')):=by
  refine ⟨fun b hf=>⟨⟨ZR hf.1 F.size,?_⟩,F.block b hf.1 fun h=>?_⟩,fun q _=>?_⟩
  ·rintro (hz | hz)
   ·exact hf.2 (.inl hz)
   ·rcases hliveM b hz with h | h
    ·exact hf.2 (.inr h)
    ·have h2 : b < w.heap.size:=hf.1
     omega
  ·obtain ⟨q,_,ob,l,a1,a2,a3⟩:=hL b h
   exact hf.2 (.inr ⟨q,ob,l,a1,a2,a3⟩)
  ·show obLe m[q]? β[q]? (bk m ks (m'.map (Ob.ren σ)))[q]? (bk β ks β')[q]?
   by_cases hq : q < m.length
   ·rw [gm,gβ,if_pos hq,if_pos hq]
    by_cases hk : q ∈ ks
    ·rw [if_pos hk,if_pos hk]
     exact obLe_ren' _ (hp _ _ (idx_get hk))
    ·rw [if_neg hk,if_neg hk]
     exact obLe_refl _ _
   ·rw [ZL (by omega : m.length ≤ q)]
    unfold obLe
    split <;> simp_all
 have htr : Tr (cx w' (others ks Zo m β) m' β') (cx w' Zo (bk m ks (m'.map (Ob.ren σ))) (bk β ks β')) σ (fun _=>True):=by
  refine ⟨fun b hf=>⟨⟨hf.1,?_⟩,rfl⟩,fun i _=>?_⟩
  ·rintro (hz | hz)
   ·exact hf.2 (.inl (.inl hz))
   ·rcases hlive b hz with h | h
    ·exact hf.2 (.inl (.inr h))
    ·exact hf.2 (.inr h)
  ·show obLe m'[i]? β'[i]? (bk m ks (m'.map (Ob.ren σ)))[σ i]? (bk β ks β')[σ i]?
   by_cases hi : i < m'.length
   ·rw [(gs i hi).1,(gs i hi).2]
    exact obLe_ren _ _ _
   ·rw [ZL (by omega : m'.length ≤ i)]
    unfold obLe
    split <;> simp_all
 refine ⟨⟨by rw [bk_length,bk_length,M.len,M'.len]; simp,?_,?_,?_,fun b hz=>ZR (M.zlt b hz) F.size⟩,hle,htr,hliveM⟩
 ·intro q ob l h1 h2
  rcases cls q ob l h1 h2 with ⟨a0,a1,a2⟩ | ⟨i,ob0,_,a1,rfl,a2⟩
  ·refine (M.ok q ob l a1 a2).mono hle fun b hb=>F.block b (blk_lt (M.ok q ob l a1 a2) hb).2 fun h=>?_
   obtain ⟨q',hq',ob',l',b1,b2,b3⟩:=hL b h
   have:=M.sep q q' ob ob' l l' b a1 b1 a2 b2 hb b3
   subst this
   exact a0 hq'
  ·exact OK.ren htr rfl (Ob.refs_all ob0) (M'.ok i ob0 l a1 a2)
 ·intro q q' ob ob' l l' b h1 h2 h3 h4 h5 h6
  rcases cls q ob l h1 h3 with ⟨a0,a1,a2⟩ | ⟨i,ob0,a0,a1,rfl,a2⟩ <;> rcases cls q' ob' l' h2 h4 with ⟨b0,b1,b2⟩ | ⟨i',ob0',b0,b1,rfl,b2⟩
  ·exact M.sep _ _ _ _ _ _ b a1 b1 a2 b2 h5 h6
  ·rw [Ob.ren_blk] at h6
   exact (M'.out b ⟨_,_,_,b1,b2,h6⟩ (.inr ⟨q,ob,l,a0,a1,a2,h5⟩)).elim
  ·rw [Ob.ren_blk] at h5
   exact (M'.out b ⟨_,_,_,a1,a2,h5⟩ (.inr ⟨q',ob',l',b0,b1,b2,h6⟩)).elim
  ·rw [Ob.ren_blk] at h5 h6
   have:=M'.sep _ _ _ _ _ _ b a1 b1 a2 b2 h5 h6
   rw [a0,b0,this]
 ·intro b hb hz
  rcases hlive b hb with ⟨o,ob,l,_,a1,a2,a3⟩ | h
  ·exact M.out b ⟨o,ob,l,a1,a2,a3⟩ hz
  ·exact M'.out b h (.inl hz)
end
def plc1 (o : Nat) : Ob → List V
 | .box _ _=>[.ptr o 0]
 | .arr _ _ xs=>[.ar o 0 xs.length,.eptr o 1 0]
 | .mp _ _ _=>[.map o]
 | _=>[]
def plv1 (l : Lc) : Ob → List Value
 | .box _ _=>[.pointer (some ⟨l.b,0,none⟩)]
 | .arr _ sz xs=>[.slice (some ⟨l.b,0 * sz,none⟩) xs.length (l.cap - 0),.pointer (some ⟨l.b,1 * sz + 0,none⟩)]
 | .mp _ _ _=>[.map (some l.b)]
 | _=>[]
def plc : Nat → List Ob → List V
 | _,[]=>[]
 | o,ob :: m=>plc1 o ob ++ plc (o + 1) m
def plv : List Ob → List Lc → List Value
 | ob :: m,l :: β=>plv1 l ob ++ plv m β
 | _,_=>[]
theorem plc_in {c : Cx} : ∀ (m : List Ob) (β : List Lc) (k : Nat),β.length = m.length → (∀ i ob,m[i]? = some ob → c.m[k + i]? = some ob) → (∀ i l,β[i]? = some l → c.β[k + i]? = some l) → RVs c (plc k m) (plv m β)
 | [],β,k,_,_,_=>by cases β <;> rfl
 | ob :: m,[],k,h,_,_=>by simp at h
 | ob :: m,l :: β,k,h,h1,h2=>by
   have a1 : c.m[k]? = some ob:=by simpa using h1 0 ob rfl
   have a2 : c.β[k]? = some l:=by simpa using h2 0 l rfl
   refine RVs.append ?_ (plc_in m β (k + 1) (by simpa using h) (fun i ob' hi=>?_) (fun i l' hi=>?_))
   ·cases ob with
    | hole=>rfl
    | dead=>rfl
    | box lv cs =>
     refine ⟨_,_,rfl,?_,rfl⟩
     unfold RV; rw [a1,a2]
    | arr lv sz xs =>
     refine ⟨_,_,rfl,?_,⟨_,_,rfl,?_,rfl⟩⟩
     ·unfold RV; rw [a1,a2]; exact ⟨by omega,_,rfl,fun _=>rfl⟩
     ·unfold RV; rw [a1,a2]
    | mp lv ks vs =>
     refine ⟨_,_,rfl,?_,rfl⟩
     unfold RV; rw [a1,a2]
   ·have:=h1 (i + 1) ob' (by simpa using hi)
    rwa [show k + (i + 1) = k + 1 + i by omega] at this
   ·have:=h2 (i + 1) l' (by simpa using hi)
    rwa [show k + (i + 1) = k + 1 + i by omega] at this
theorem RVs.split {c : Cx} : ∀ {xs ys : List V} {us vs : List Value},us.length = xs.length → RVs c (xs ++ ys) (us ++ vs) → RVs c xs us ∧ RVs c ys vs
 | [],ys,us,vs,hl,h=>by
   have : us = []:=Zn hl
   subst this
   exact ⟨rfl,h⟩
 | x :: xs,ys,[],vs,hl,h=>by simp at hl
 | x :: xs,ys,u :: us,vs,hl,⟨u',us',e,h1,h2⟩=>by
   rw [List.cons_append] at e
   injection e with e1 e2
   subst e1; subst e2
   obtain ⟨a,b⟩:=RVs.split (by simpa using hl) h2
   exact ⟨⟨_,_,rfl,h1,a⟩,b⟩
theorem plc1_out {c : Cx} {o : Nat} {ob : Ob} {l : Lc} (h : RVs c (plc1 o ob) (plv1 l ob)) (hd : ob ≠ .dead) : obLe (some ob) (some l) c.m[o]? c.β[o]?:=by
 cases ob with
 | hole=>trivial
 | dead=>exact absurd rfl hd
 | box lv cs =>
  obtain ⟨u,us,e,h1,_⟩:=h
  injection e with e1 e2
  subst e1
  unfold RV at h1
  cases hm : c.m[o]? with
  | none=>rw [hm] at h1; exact h1.elim
  | some ob' =>
   cases hb : c.β[o]? with
   | none=>rw [hm,hb] at h1; cases ob' <;> first | exact h1.elim | exact .inl rfl
   | some l' =>
    rw [hm,hb] at h1
    cases ob' <;> first | exact h1.elim | exact .inl rfl | skip
    simp only [Value.pointer.injEq,Option.some.injEq,Addr.mk.injEq] at h1
    exact .inr ⟨_,_,l',rfl,rfl,h1.1.symm⟩
 | arr lv sz xs =>
  obtain ⟨u,us,e,h1,u2,us2,e',h2,_⟩:=h
  simp only [plv1,List.cons.injEq] at e
  obtain ⟨e1,e2⟩:=e
  subst e1; subst e2
  simp only [List.cons.injEq] at e'
  obtain ⟨e3,_⟩:=e'
  subst e3
  unfold RV at h1 h2
  cases hm : c.m[o]? with
  | none=>rw [hm] at h1; exact h1.elim
  | some ob' =>
   cases hb : c.β[o]? with
   | none=>rw [hm,hb] at h1; cases ob' <;> first | exact h1.elim | exact .inl rfl
   | some l' =>
    rw [hm,hb] at h1 h2
    cases ob' <;> first | exact h1.elim | exact .inl rfl | skip
    obtain ⟨g1,A',g2,_⟩:=h1
    simp only [Value.slice.injEq] at g2
    simp only [Value.pointer.injEq,Option.some.injEq,Addr.mk.injEq] at h2
    obtain ⟨q1,q2,_⟩:=h2
    obtain ⟨b,cp⟩:=l
    obtain ⟨b',cp'⟩:=l'
    simp only at q1 g2
    have e1 : b = b':=q1
    have e2 : cp = cp':=by have:=g2.2.2; omega
    simp only [Nat.one_mul,ZH] at q2
    subst e1; subst e2; subst q2
    exact .inr ⟨_,_,rfl,rfl,by rw [Zl] at g1; exact g1⟩
 | mp lv ks vs =>
  obtain ⟨u,us,e,h1,_⟩:=h
  injection e with e1 e2
  subst e1
  unfold RV at h1
  cases hm : c.m[o]? with
  | none=>rw [hm] at h1; exact h1.elim
  | some ob' =>
   cases hb : c.β[o]? with
   | none=>rw [hm,hb] at h1; cases ob' <;> first | exact h1.elim | exact .inl rfl
   | some l' =>
    rw [hm,hb] at h1
    cases ob' <;> first | exact h1.elim | exact .inl rfl | skip
    simp only [Value.map.injEq,Option.some.injEq] at h1
    exact .inr ⟨_,_,_,l',rfl,rfl,h1.symm⟩
theorem plc_out {c : Cx} : ∀ (m : List Ob) (β : List Lc) (k : Nat),β.length = m.length → RVs c (plc k m) (plv m β) → ∀ i ob l,m[i]? = some ob → β[i]? = some l → ob ≠ .dead → obLe (some ob) (some l) c.m[k + i]? c.β[k + i]?
 | [],β,k,_,_=>fun i ob l h=>by simp at h
 | ob :: m,[],k,h,_=>by simp at h
 | ob :: m,l :: β,k,h,hr=>by
   have hl : (plv1 l ob).length = (plc1 k ob).length:=by cases ob <;> rfl
   obtain ⟨a1,a2⟩:=RVs.split hl hr
   intro i ob' l' h1 h2 hd
   cases i with
   | zero =>
    simp only [ZK,Option.some.injEq] at h1 h2
    subst h1; subst h2
    exact plc1_out a1 hd
   | succ i =>
    have:=plc_out m β (k + 1) (by simpa using h) a2 i ob' l' (by simpa using h1) (by simpa using h2) hd
    rwa [show k + 1 + i = k + (i + 1) by omega] at this
def CT (P : Program) (f : FuncId) (args : List V) (m : List Ob) (r : V) (m' : List Ob) : Prop :=
 ∀ (w : World) (Zo : Nat → Prop) (β : List Lc) (us : List Value),Mem w Zo m β → RVs (cx w Zo m β) args us →
  Calls P f us.toArray w (fun e w'=>∃ v β',e = .returned v ∧ Frame (liveAt m β) w w' ∧ Mem w' Zo m' β' ∧ RVs (cx w' Zo m' β') (plc 0 m) (plv m β) ∧ RV (cx w' Zo m' β') r v ∧ ∀ b,liveAt m' β' b → liveAt m β b ∨ w.heap.size ≤ b)
def lcVC (P : Program) (f : FuncId) (args : List V) (m : List Ob) (K : V → List Ob → Prop) : Prop :=
 ∃ ks fs r m',bodyOK P f = true ∧ ks.Nodup ∧ (∀ q ∈ ks,q < m.length) ∧ (∀ q ∈ ks,((frzM fs m).getD q .hole).refs (· ∈ ks)) ∧ (∀ q ∈ ks,(frzM fs m).getD q .hole ≠ .dead) ∧ Refs (· ∈ ks) (convs (frzM fs m) args) ∧ ks.length ≤ m'.length ∧
  CT P f (rens (idx ks) (convs (frzM fs m) args)) (sel ks (frzM fs m)) r m' ∧ K (r.ren (sg ks m.length)) (bk (frzM fs m) ks (m'.map (Ob.ren (sg ks m.length))))
section
variable {P : Program} {o : Oper} {st : St} {K : St → Prop}
theorem s_callL {f : FuncId} {x : Operand} {args : Array Operand} {ts : Array TypeId} {fs cs : List V} (ho : o.op = .call { callee:=.value x,args:=args,argTypes:=ts }) (hf : St.ev st.t x = .fn f fs cs)
  (h : lcVC P f (fs ++ args.toList.map (St.ev st.t) ++ cs) st.m (fun r m'=>K ⟨putT st.t o.dst r,m',st.g⟩)) : OW P o st K:=by
 obtain ⟨ks,fz,r,m',hb,hn,hlt,hrf,hnd,hargs,hlen,hct,hk⟩:=h
 intro w0 E Zo gh a w Q ⟨β,M,hE,hF,hd,ht,hgh⟩
 have hbd : ∃ fn, P.funcs[f]? = some fn ∧ fn.body.isSome = true ∧ (fn.name == "runtime.NumGoroutine") = false := by
  unfold bodyOK at hb
  split at hb
  ·rename_i fn hfn
   simp only [Zu,Yc] at hb
   exact ⟨fn,hfn,hb.1,hb.2⟩
  ·cases hb
 have hv:=ev_RV ht x
 rw [hf] at hv
 obtain ⟨us,vs,e,h1,h2⟩:=hv
 have h3:=run_evs (a:=a) (c:=cx w Zo st.m β) (ev:=St.ev st.t) args.toList (fun y hy=>ev_RV ht y)
 have hall : RVs (cx w Zo st.m β) (fs ++ args.toList.map (St.ev st.t) ++ cs) ((us ++ args.map a.eval) ++ vs).toList:=by
  have:=(h1.append h3).append h2
  simpa using this
 obtain ⟨M1,hle1,hl1⟩:=M.frz fz
 have hlt1 : ∀ q ∈ ks,q < (frzM fz st.m).length:=fun q hq=>by rw [frzM_length]; exact hlt q hq
 have hall1:=convs_sound M1 _ _ (hall.mono hle1)
 obtain ⟨M2,htr,hl2⟩:=M1.sel (Zo':=others ks Zo (frzM fz st.m) β) ks hn hlt1 hrf (fun b hb=>by
  rcases hb with hb | ⟨q,ob,l,_,a1,a2,a3⟩
  ·exact .inl hb
  ·exact .inr ⟨q,ob,l,a1,a2,a3⟩) (fun q ob l b hq a1 a2 a3 hz=>by
  rcases hz with hz | ⟨q',ob',l',hq',b1,b2,b3⟩
  ·exact M1.out b ⟨q,ob,l,a1,a2,a3⟩ hz
  ·have:=M1.sep q q' ob ob' l l' b a1 b1 a2 b2 a3 b3
   subst this
   exact hq' hq)
 have hall2:=RVs.tr htr _ _ hargs hall1
 have hcall:=hct w _ _ _ M2 hall2
 have hexec : (execOp a.eval o).run P w = .ok (.enter f ((us ++ args.map a.eval) ++ vs)) w:=by
  obtain ⟨fn,g1,g2,g3⟩:=hbd
  have g4 : fn.body.isNone = false:=by cases hb : fn.body <;> simp_all
  simp only [execOp,ho,resolve,e,Deferred.ofValue,Sem.run_bind,Sem.run_pure,Result.andThen_ok,invoke,callFunc,run_program,g1,g3,g4]
  rfl
 unfold Oper.wp
 rw [hexec]
 rw [Oper.upon_enter]
 rw [Array.toArray_toList] at hcall
 refine hcall.mono ?_
 rintro e' w' ⟨v,β',rfl,G,M',hpl,hv',hl'⟩
 have hltb : ∀ q ∈ ks,q < β.length:=fun q hq=>by rw [M.len]; exact hlt q hq
 obtain ⟨J1,J2,J3,J4⟩:=M1.back hn hlt1 hlen G hl2 M' (fun i q hi=>by
  have hq:=ZS hi
  have a1:=sel_get (m:=frzM fz st.m) hlt1 i
  have a2:=selL_get (β:=β) hltb i
  rw [hi] at a1 a2
  simp only [ZD] at a1 a2
  have b1 : (frzM fz st.m)[q]? = some ((frzM fz st.m)[q]'(hlt1 q hq)):=Zy (hlt1 q hq)
  have b2 : β[q]? = some (β[q]'(hltb q hq)):=Zy (hltb q hq)
  rw [b1] at a1
  rw [b2] at a2
  have hnd' : (frzM fz st.m)[q]'(hlt1 q hq) ≠ .dead:=by
   have:=hnd q hq
   rwa [Zm,b1] at this
  have:=plc_out _ _ 0 M2.len hpl i _ _ a1 a2 (fun h=>hnd' (by
   cases hob : (frzM fz st.m)[q]'(hlt1 q hq) <;> rw [hob] at h <;> first | rfl | cases h))
  rw [Zl] at this
  rw [b1,b2]
  exact obLe_unren (ρ:=idx ks) this) hl'
 rw [frzM_length] at J1 J2 J3 J4
 have hleT:=hle1.trans J2
 have hF2 : Frame E w0 w':=by
  refine ⟨G.os.trans hF.os,G.tape.trans hF.tape,G.output.trans hF.output,Yo hF.size G.size,fun b hb hEb=>?_,Yo hF.drawn G.drawn⟩
  rw [← hF.block b hb hEb]
  refine G.block b (ZR hb hF.size) fun hLb=>?_
  obtain ⟨q,_,ob,l,a1,a2,a3⟩:=hl2 b hLb
  rcases hE b (hl1 b ⟨q,ob,l,a1,a2,a3⟩) with h | h
  ·exact hEb h
  ·omega
 refine ⟨_,hk,_,J1,fun b hb=>?_,hF2,by cases o.dst <;> exact hd,(ht.mono hleT).put (RV.tr J3 r v (Ref.all r) hv') o.dst,hgh.mono hleT⟩
 rcases J4 b hb with h | h
 ·exact hE b (hl1 b h)
 ·exact .inr (Yo hF.size h)
end
end Go.Pm
end
section
namespace Go.Pm
open Go.RowKit
section
variable {P : Program} {w : World} {Zo : Nat → Prop} {m : List Ob} {β : List Lc}
theorem arr_write {q p sz : Nat} {l : Lc} {xs ys : List (List V)} {vs : List Value} {e : TypeId} {us : Array Value} {fr : Nat × Nat} (M : Mem w Zo m β) (hm : m[q]? = some (.arr true sz xs)) (hβ : β[q]? = some l) (hcap : l.cap ≠ 0)
  (k1 : w.heap[l.b]? = some (.cells us e fr)) (k2 : us.size = l.cap * sz) (k3 : NoFr (us.size + tlS sz) fr) (k4 : RR (cx w Zo m β) sz l.b 0 xs) (b1 : xs.length ≤ l.cap) (b2 : l.cap < 2 ^ 63) (hs : 0 < sz)
  (hp : p + ys.length ≤ xs.length) (hly : ∀ y ∈ ys,y.length = sz) (hvs : RVs (cx w Zo m β) ys.flatten vs) (h1 : ∀ v ∈ vs,v.oneCell' = true) :
  ∃ w',(storeCells ⟨l.b,p * sz,none⟩ vs).run P w = .ok () w' ∧ Same1 l.b w w' ∧ Mem w' Zo (m.set q (.arr true sz (xs.take p ++ ys ++ xs.drop (p + ys.length)))) β ∧ (cx w Zo m β).le (cx w' Zo (m.set q (.arr true sz (xs.take p ++ ys ++ xs.drop (p + ys.length)))) β):=by
 have hvl : vs.length = ys.length * sz:=by rw [hvs.length,flatten_len hly]
 have hroom : p * sz + 0 + vs.length ≤ us.size:=by
  rw [hvl,k2,ZH,← ZG]; exact Yv _ (by omega)
 obtain ⟨w',us',g1,g2,g3,g4,g5⟩:=run_storeCells (P:=P) l.b (p * sz) e fr vs 0 us w k1 k3.less hroom h1
 simp only [ZH] at g5
 have hblk : ∀ ys',(Ob.arr true sz ys').blk l = some l.b:=fun ys'=>by simp [Ob.blk,hcap]
 have hlen : (xs.take p ++ ys ++ xs.drop (p + ys.length)).length = xs.length:=by simp; omega
 obtain ⟨us1,c1,d1,e1⟩:=(k4.take p).list
 obtain ⟨us3,c3,d3,e3⟩:=(k4.drop (p + ys.length)).list
 have htl : (xs.take p).length = p:=by rw [Yp]; omega
 rw [htl] at d1
 have hT:=M.turn (w':=w') (ob':=.arr true sz (xs.take p ++ ys ++ xs.drop (p + ys.length))) hm hβ (.inr ⟨_,_,rfl,rfl,by rw [hlen]; exact Zk _⟩) (fun b hb=>by rw [hblk] at hb ⊢; exact hb) g2.size (fun b hlt hne=>g2.block b (fun e=>hne (by rw [e]; exact hblk _)))
  (fun hle _=>by
   refine ⟨by rw [hlen]; exact b1,b2,hs,.inr ⟨us',e,fr,g3,by rw [g4,k2],by rw [g4]; exact k3,?_,.inl rfl⟩⟩
   have hall : ∀ x ∈ xs.take p ++ ys ++ xs.drop (p + ys.length),x.length = sz:=by
    intro x hx
    rcases ZX.1 hx with hx | hx
    ·rcases ZX.1 hx with hx | hx
     ·exact k4.length x (Yq hx)
     ·exact hly x hx
    ·exact k4.length x (Yx hx)
   refine RR.of (us:=us1 ++ vs ++ us3) hall ?_ ?_
   ·rw [ZY,ZY]
    exact ((c1.mono hle).append (hvs.mono hle)).append (c3.mono hle)
   ·intro j u hj
    show w'.cell? ⟨l.b,0 + j,none⟩ = some u
    rw [cell_at g3,Zl,g5,hvl]
    have hm2 : (p + ys.length) * sz = p * sz + ys.length * sz:=ZG _ _ _
    rcases ZN j (p * sz) with h | h
    ·rw [if_neg (by omega)]
     rw [Yr,Ze (by omega)] at hj
     have:=e1 j u hj
     have this : w.cell? ⟨l.b,0 + j,none⟩ = some u:=this
     rw [cell_at k1,Zl] at this
     exact this
    ·rcases ZN j (p * sz + ys.length * sz) with h2 | h2
     ·rw [if_pos ⟨h,h2⟩]
      rw [Yr,Zd (by omega),Ze (by omega),d1] at hj
      exact hj
     ·rw [if_neg (by omega)]
      rw [Zd (by simp; omega)] at hj
      have hj2 : us3[j - (p * sz + ys.length * sz)]? = some u:=by
       rw [← hj]; congr 1; simp; omega
      have:=e3 _ u hj2
      have this : w.cell? ⟨l.b,0 + (p + ys.length) * sz + (j - (p * sz + ys.length * sz)),none⟩ = some u:=this
      rw [cell_at k1,hm2] at this
      rw [show j = 0 + (p * sz + ys.length * sz) + (j - (p * sz + ys.length * sz)) by omega]
      exact this)
 exact ⟨w',g1,g2,hT.1,hT.2⟩
end
section
variable {P : Program} {o : Oper} {st : St} {K : St → Prop}
theorem set_same {α : Type} {l : List α} {i : Nat} {x : α} (h : l[i]? = some x) : l.set i x = l:=by
 apply Yb
 intro j
 rw [ZQ]
 split
 ·rename_i e; subst e
  rw [if_pos (Zc.1 h).1]; exact h.symm
 ·rfl
def AsAr (x : V) (q off len : Nat) : Prop:=x = .ar q off len ∨ ∃ cap,x = .arc q off len cap
theorem AsAr.rv {x : V} {q off len : Nat} (h : AsAr x q off len) {c : Cx} {v : Value} (hv : RV c x v) : RV c (.ar q off len) v:=by
 rcases h with rfl | ⟨cap,rfl⟩
 ·exact hv
 ·exact RV_arc hv
theorem s_clear {t e : TypeId} {x : Operand} {q off len sz : Nat} {ag : Bool} {zs : List V} {xs : List (List V)} (ho : o.op = .call { callee:=.builtin .clear,args:=#[x],argTypes:=#[t] }) (he : elt P t = some e) (hl : lay P e = some (sz,ag)) (hs : 0 < sz) (hz : zer P e = some zs) (hzs : zs.length = sz)
  (hone : ∀ z ∈ zs,oneV st.m z = true) (hx : AsAr (St.ev st.t x) q off len) (hm : st.m[q]? = some (.arr true sz xs))
  (h : K ⟨putT st.t o.dst (.tup []),st.m.set q (.arr true sz (xs.take off ++ Za len zs ++ xs.drop (off + len))),st.g⟩) : OW P o st K:=by
 intro w0 E Zo gh a w Q ⟨β,M,hE,hF,hd,ht,hgh⟩
 have hvx:=hx.rv (ev_RV ht x)
 obtain ⟨_,l,hβ,⟨b1,b2,b3,b4⟩,b5,A',e1,b6⟩:=at_ar M (Agree.refl _) hm hvx
 obtain ⟨i,z,hi,hz',rfl⟩:=zer_out hz
 have hzsz : z.cells.size = sz:=by simpa using hzs
 have hex : ∀ w2,(Builtin.clear_ #[t] o.type #[a.eval x]).run P w = .ok (.tuple #[]) w2 → (execOp a.eval o).run P w = .ok (.value (.tuple #[])) w2:=by
  intro w2 hv
  simp [execOp,ho,resolve,invoke,builtin,hv]
 by_cases h0 : len = 0
 ·subst h0
  have hsame : st.m.set q (.arr true sz (xs.take off ++ Za 0 (z.cells.toList.map ofVal1) ++ xs.drop (off + 0))) = st.m:=by
   rw [YA,ZW,ZH,Yd]
   exact set_same hm
  rw [hsame] at h
  have hr : (Builtin.clear_ #[t] o.type #[a.eval x]).run P w = .ok (.tuple #[]) w:=by
   rw [e1]
   cases A' <;> simp [Builtin.clear_,run_und (elt_out he)]
  exact wp_value (hex w hr) ⟨_,h,β,M,hE,hF,by cases o.dst <;> exact hd,ht.put (x:=.tup []) ⟨#[],rfl,rfl⟩ o.dst,hgh⟩
 ·have hcap : l.cap ≠ 0:=by omega
  rcases b4 with b4 | ⟨us,e',fr,k1,k2,k3,k4,k5⟩
  ·exact absurd b4 hcap
  have k1 : w.heap[l.b]? = some (.cells us e' fr):=k1
  have hA:=b6 (by omega)
  subst hA
  have hzl : (Builtin.zeroCells z.cells len).toList = (Za len z.cells.toList).flatten:=by
   have:=madeCells_list z.cells sz len hzsz hs
   rw [← this,← hzsz]
   rfl
  have hvs : RVs (cx w Zo st.m β) (Za len (z.cells.toList.map ofVal1)).flatten (Builtin.zeroCells z.cells len).toList:=by
   rw [hzl]
   exact RVs_replicate (RVs_ofVal1 _ _) _
  have h1 : ∀ v ∈ (Builtin.zeroCells z.cells len).toList,v.oneCell' = true:=by
   refine one_list M (Agree.refl _) (fun y hy=>?_) hvs
   obtain ⟨l2,hl2,hy⟩:=List.mem_flatten.1 hy
   rw [YB hl2] at hy
   exact hone y hy
  obtain ⟨w',r1,r2,M',hle⟩:=arr_write (P:=P) (p:=off) (ys:=Za len (z.cells.toList.map ofVal1)) M hm hβ hcap k1 k2 k3 k4 b1 b2 hs (by simpa using b5) (fun y hy=>by rw [YB hy]; exact hzs) hvs h1
  rw [Ys] at M' hle
  have hr : (Builtin.clear_ #[t] o.type #[a.eval x]).run P w = .ok (.tuple #[]) w':=by
   rw [e1]
   obtain ⟨n,rfl⟩ : ∃ n,len = n + 1:=⟨len - 1,by omega⟩
   simp [Builtin.clear_,run_und (elt_out he),run_zero hi hz',r1]
  refine wp_value (hex w' hr) ⟨_,h,β,M',?_,r2.frame hF (hE _ ⟨q,_,l,hm,hβ,by simp [Ob.blk,hcap]⟩),by cases o.dst <;> exact hd,(ht.mono hle).put (x:=.tup []) ⟨#[],rfl,rfl⟩ o.dst,hgh.mono hle⟩
  rintro b ⟨p,ob,l',h3,h4,h5⟩
  rcases getElem?_set_some h3 with ⟨e2,e3,_⟩ | ⟨hne,h3⟩
  ·subst e2; subst e3
   rw [hβ] at h4; cases h4
   exact hE b ⟨_,_,l,hm,hβ,by simpa [Ob.blk,hcap] using h5⟩
  ·exact hE b ⟨p,ob,l',h3,h4,h5⟩
end
end Go.Pm
end
section
namespace Go.Pm
open Go.RowKit
section
variable {P : Program} {o : Oper} {st : St} {K : St → Prop}
theorem first_cells {w : World} {Zo : Nat → Prop} {m : List Ob} {β : List Lc} (M : Mem w Zo m β) {y : V} {v : Value} {ys : List (List V)} {sz : Nat} (hy : elemsV m y = some ys) (hv : RV (cx w Zo m β) y v) {n : Nat} (hly : ∀ z ∈ ys.take n,z.length = sz) (hn : n ≤ ys.length) :
  ∃ us : List Value,RVs (cx w Zo m β) (ys.take n).flatten us ∧ us.length = n * sz ∧ (Builtin.lenOf v).run P w = .ok ys.length w ∧ (Builtin.firstCells sz n v).run P w = .ok us.toArray w:=by
 obtain ⟨A',cp,e1,g1,g2,g3⟩:=elems_at M (Agree.refl _) hy hv
 have hln : (ys.take n).length = n:=by rw [Yp]; omega
 have hlt:=hly
 rcases g3 with rfl | ⟨sz',b,p,_,rfl,hr⟩
 ·have hn0 : n = 0:=by simpa using hn
  subst hn0
  exact ⟨[],rfl,by simp,by rw [e1]; rfl,by rw [e1]; exact run_firstCells (by simp) (.inl rfl) _⟩
 ·obtain ⟨us,k1,k2,k3⟩:=(hr.take n).list
  have hul : us.length = n * sz:=by rw [k1.length,flatten_len hlt,hln]
  refine ⟨us,k1,hul,by rw [e1]; rfl,?_⟩
  rw [e1]
  exact run_firstCells hul (.inr ⟨b,p,rfl,fun j u hj=>k3 j u hj⟩) _
theorem s_copy {t t' e : TypeId} {x y : Operand} {q off len sz : Nat} {ag : Bool} {xs ys : List (List V)} (ho : o.op = .call { callee:=.builtin .copy,args:=#[x,y],argTypes:=#[t,t'] }) (he : elt P t = some e) (hl : lay P e = some (sz,ag)) (hs : 0 < sz)
  (hx : AsAr (St.ev st.t x) q off len) (hm : st.m[q]? = some (.arr true sz xs)) (hy : elemsV st.m (St.ev st.t y) = some ys) (hly : ∀ z ∈ ys.take (Zv ys.length len),z.length = sz) (h1 : ∀ z ∈ (ys.take (Zv ys.length len)).flatten,oneV st.m z = true)
  (h : K ⟨putT st.t o.dst (.int .i64 (Zv ys.length len : Nat)),st.m.set q (.arr true sz (xs.take off ++ ys.take (Zv ys.length len) ++ xs.drop (off + Zv ys.length len))),st.g⟩) : OW P o st K:=by
 intro w0 E Zo gh a w Q ⟨β,M,hE,hF,hd,ht,hgh⟩
 have hvx:=hx.rv (ev_RV ht x)
 obtain ⟨_,l,hβ,⟨b1,b2,b3,b4⟩,b5,A',e1,b6⟩:=at_ar M (Agree.refl _) hm hvx
 have hnl : Zv ys.length len ≤ ys.length:=Nat.min_le_left _ _
 have hnl2 : Zv ys.length len ≤ len:=Nat.min_le_right _ _
 obtain ⟨us,c1,c2,c3,c4⟩:=first_cells (P:=P) M hy (ev_RV ht y) hly hnl
 generalize hn : Zv ys.length len = n at *
 have hex : ∀ v w2,(Builtin.copy_ #[t,t'] o.type #[a.eval x,a.eval y]).run P w = .ok v w2 → (execOp a.eval o).run P w = .ok (.value v) w2:=by
  intro v w2 hv
  simp [execOp,ho,resolve,invoke,builtin,hv]
 have hln : (ys.take n).length = n:=by rw [Yp]; omega
 by_cases h0 : n = 0
 ·subst h0
  have hsame : st.m.set q (.arr true sz (xs.take off ++ ys.take 0 ++ xs.drop (off + 0))) = st.m:=by
   rw [List.take_zero,ZW,ZH,Yd]
   exact set_same hm
  rw [hsame] at h
  have hu0 : us = []:=Zn (by simpa using c2)
  subst hu0
  have hr : (Builtin.copy_ #[t,t'] o.type #[a.eval x,a.eval y]).run P w = .ok (.int .i64 ((0 : Nat) : Int)) w:=by
   rw [e1]
   cases A' <;> simp [Builtin.copy_,run_und (elt_out he),run_sz hl,c3,hn,c4,goInt,storeCells]
  exact wp_value (hex _ w hr) ⟨_,h,β,M,hE,hF,by cases o.dst <;> exact hd,ht.put (x:=.int .i64 ((0 : Nat) : Int)) rfl o.dst,hgh⟩
 ·have hcap : l.cap ≠ 0:=by omega
  rcases b4 with b4 | ⟨us2,e',fr,k1,k2,k3,k4,k5⟩
  ·exact absurd b4 hcap
  have k1 : w.heap[l.b]? = some (.cells us2 e' fr):=k1
  have hA:=b6 (by omega)
  subst hA
  have hone : ∀ v ∈ us,v.oneCell' = true:=one_list M (Agree.refl _) (fun z hz=>h1 z hz) c1
  obtain ⟨w',r1,r2,M',hle⟩:=arr_write (P:=P) (p:=off) (ys:=ys.take n) M hm hβ hcap k1 k2 k3 k4 b1 b2 hs (by rw [hln]; omega) hly c1 hone
  rw [hln] at M' hle
  have hr : (Builtin.copy_ #[t,t'] o.type #[a.eval x,a.eval y]).run P w = .ok (.int .i64 (n : Int)) w':=by
   rw [e1]
   simp [Builtin.copy_,run_und (elt_out he),run_sz hl,c3,hn,c4,goInt,r1]
  refine wp_value (hex _ w' hr) ⟨_,h,β,M',?_,r2.frame hF (hE _ ⟨q,_,l,hm,hβ,by simp [Ob.blk,hcap]⟩),by cases o.dst <;> exact hd,(ht.mono hle).put (x:=.int .i64 (n : Int)) rfl o.dst,hgh.mono hle⟩
  rintro b ⟨p,ob,l',h3,h4,h5⟩
  rcases getElem?_set_some h3 with ⟨e2,e3,_⟩ | ⟨hne,h3⟩
  ·subst e2; subst e3
   rw [hβ] at h4; cases h4
   exact hE b ⟨_,_,l,hm,hβ,by simpa [Ob.blk,hcap] using h5⟩
  ·exact hE b ⟨p,ob,l',h3,h4,h5⟩
theorem RV_arc_mk {c : Cx} {o off len cap sz : Nat} {lv : Bool} {xs : List (List V)} {l : Lc} {v : Value} {A : Option Addr} (hm : c.m[o]? = some (.arr lv sz xs)) (hβ : c.β[o]? = some l) (h0 : l.cap = off + cap) (h1 : off + len ≤ xs.length) (h2 : v = .slice A len cap) (h3 : 0 < cap → A = some ⟨l.b,off * sz,none⟩) : RV c (.arc o off len cap) v:=by
 unfold RV
 rw [hm,hβ]
 exact ⟨h0,h1,A,h2,h3⟩
theorem s_append_arc {t t' e ty : TypeId} {x y : Operand} {q off len cap sz : Nat} {ag : Bool} {zs : List V} {xs ys : List (List V)} (ho : o.op = .call { callee:=.builtin .append,args:=#[x,y],argTypes:=#[t,t'] }) (he : elt P t = some e) (hl : lay P e = some (sz,ag)) (hs : 0 < sz) (hz : zer P e = some zs) (hzs : zs.length = sz) (hq : seqT P t' = true)
  (hx : St.ev st.t x = .arc q off len cap) (hm : st.m[q]? = some (.arr true sz xs)) (hsrc : Src P st.m sz (St.ev st.t y) ys) (hly : ∀ z ∈ ys,z.length = sz) (h1 : ∀ z ∈ ys.flatten,oneV st.m z = true) (hb1 : len + ys.length ≤ cap) (hb2 : off + len + ys.length ≤ xs.length)
  (h : K ⟨putT st.t o.dst (.arc q off (len + ys.length) cap),st.m.set q (.arr true sz (xs.take (off + len) ++ ys ++ xs.drop (off + len + ys.length))),st.g⟩) : OW P o st K:=by
 intro w0 E Zo gh a w Q ⟨β,M,hE,hF,hd,ht,hgh⟩
 have hvx:=ev_RV ht x
 rw [hx] at hvx
 obtain ⟨_,l,hβ,⟨b1,b2,b3,b4⟩,b5,A',e1,b6⟩:=at_ar M (Agree.refl _) hm (RV_arc hvx)
 have hc:=RV_arc_cap hvx hm hβ
 have hc' : l.cap - off = cap:=by omega
 rw [hc'] at e1
 obtain ⟨us,s1,s2,s3⟩:=hsrc w Zo st.m β _ M (Agree.refl _) (ev_RV ht y)
 obtain ⟨i,z,hi,hz',rfl⟩:=zer_out hz
 have hisz : i.size = sz:=by
  have:=run_sz (w:=w) hl
  simp [sizeOf,typeInfo,hi] at this
  exact this
 have hex : ∀ v w2,(Builtin.append_ #[t,t'] o.type #[a.eval x,a.eval y]).run P w = .ok v w2 → (execOp a.eval o).run P w = .ok (.value v) w2:=by
  intro v w2 hv
  simp [execOp,ho,resolve,invoke,builtin,hv]
 have hlen : (xs.take (off + len) ++ ys ++ xs.drop (off + len + ys.length)).length = xs.length:=by simp; omega
 by_cases h0 : cap = 0
 ·have hy0 : ys = []:=Zn (by omega)
  subst hy0
  have hus : us = []:=s1
  subst hus
  have hsame : st.m.set q (.arr true sz (xs.take (off + len) ++ [] ++ xs.drop (off + len + ([] : List (List V)).length))) = st.m:=by
   rw [ZW,List.length_nil,ZH,Yd]
   exact set_same hm
  rw [hsame] at h
  have hr:=run_append_fits (P:=P) (ty:=o.type) (base:=A') (n:=len) (cap:=cap) (w':=w) (elt_out he) hi hq s2 (by rw [hisz]; exact s3 w rfl) hb1 (fun ad _=>rfl) (fun _=>rfl)
  refine wp_value (hex _ w (by rw [e1]; exact hr)) ⟨_,h,β,M,hE,hF,by cases o.dst <;> exact hd,ht.put ?_ o.dst,hgh⟩
  exact RV_arc_mk (c:=cx w Zo st.m β) hm hβ hc (by simpa using b5) rfl (fun hp=>by omega)
 ·have hcap : l.cap ≠ 0:=by omega
  rcases b4 with b4 | ⟨us2,e',fr,k1,k2,k3,k4,k5⟩
  ·exact absurd b4 hcap
  have k1 : w.heap[l.b]? = some (.cells us2 e' fr):=k1
  have hA:=b6 (by omega)
  subst hA
  have hone : ∀ v ∈ us,v.oneCell' = true:=one_list M (Agree.refl _) (fun z hz=>h1 z hz) s1
  obtain ⟨w',r1,r2,M',hle⟩:=arr_write (P:=P) (p:=off + len) (ys:=ys) M hm hβ hcap k1 k2 k3 k4 b1 b2 hs hb2 hly s1 hone
  have hst : ∀ ad,(some (⟨l.b,off * sz,none⟩ : Addr)) = some ad → (storeCells (ad.add (len * i.size)) us.toArray.toList).run P w = .ok () w':=by
   rintro ad hea; cases hea
   rw [add_plain,hisz,← ZG]
   exact r1
  have hr:=run_append_fits (P:=P) (ty:=o.type) (n:=len) (cap:=cap) (w':=w') (elt_out he) hi hq s2 (by rw [hisz]; exact s3 w rfl) hb1 hst (fun hh=>by cases hh)
  refine wp_value (hex _ w' (by rw [e1]; exact hr)) ⟨_,h,β,M',?_,r2.frame hF (hE _ ⟨q,_,l,hm,hβ,by simp [Ob.blk,hcap]⟩),by cases o.dst <;> exact hd,(ht.mono hle).put ?_ o.dst,hgh.mono hle⟩
  ·rintro b ⟨p,ob,l',h3,h4,h5⟩
   rcases getElem?_set_some h3 with ⟨e2,e3,_⟩ | ⟨hne,h3⟩
   ·subst e2; subst e3
    rw [hβ] at h4; cases h4
    exact hE b ⟨_,_,l,hm,hβ,by simpa [Ob.blk,hcap] using h5⟩
   ·exact hE b ⟨p,ob,l',h3,h4,h5⟩
  ·refine RV_arc_mk (c:=cx w' Zo _ β) (xs:=xs.take (off + len) ++ ys ++ xs.drop (off + len + ys.length)) (lv:=true) (sz:=sz) (Zi (Zc.1 hm).1) hβ hc (by rw [hlen]; omega) rfl (fun _=>rfl)
theorem run_append_make {w : World} {t t' ty e : TypeId} {i : TypeInfo} {z : Value} {base : Option Addr} {n cap k : Nat} {ik : IntKind} {ik' : IntKind} {olds : Array Value} (ht : P.underlying t = some (.slice e)) (ht' : P.underlying t' = some (.int ik')) (hi : P.info? e = some i) (hz : i.zero = some z) (hzs : 0 < i.size)
  (hk : (k : Int) < 9223372036854775808) (hkb : (k : Int) * i.bytes ≤ 281474976710656) (ho : (Builtin.firstCells i.size n (.slice base n cap)).run P w.drew = .ok olds w.drew) (hfit : cap < n + k)
  (h63 : ((n + k : Nat) : Int) ≤ 9223372036854775807) (h48 : Builtin.nextslicecap (n + k) cap * i.bytes ≤ 281474976710656) (hk0 : 0 < k) :
  (Builtin.append_ #[t,t'] ty #[.slice base n cap,.int ik k]).run P w = .ok (.slice (some ⟨w.heap.size,0,none⟩) (n + k) (grownCap w (n + k) cap e)) (w.drew.alloc (.cells (olds ++ Builtin.zeroCells z.cells k ++ Builtin.zeroCells z.cells (grownCap w (n + k) cap e - (n + k))) e)):=by
 have hn : ¬ (n + k ≤ cap):=by omega
 have h63' : ¬ (9223372036854775807 < ((n : Int) + (k : Int))):=by omega
 have h48' : ¬ (281474976710656 < Builtin.nextslicecap (n + k) cap * i.bytes):=by omega
 have e1 : ({ w with drawn:=w.drawn + 1 } : World) = w.drew:=rfl
 have hw : IntKind.i64.wrap (k : Int) = k:=by simp [IntKind.wrap,IntKind.bits,IntKind.signed]; omega
 have hk1 : ¬ ((k : Int) < 0):=by omega
 have hkb' : ¬ (281474976710656 < (k : Int) * (i.bytes : Int)):=by omega
 have hks : ¬ (k * i.size = 0):=by
  have:=Nat.mul_pos hk0 hzs
  omega
 have hks1 : ¬ (k = 0):=by omega
 have hks2 : ¬ (i.size = 0):=by omega
 simp [Builtin.append_,run_und ht,run_und ht',sizeOf,typeInfo,zeroValue,hi,hz,hn,h63',h48',Question.forced,e1,ho,newRow,grownCap,asInt,asIntOf,hw,hk1,hkb',hks,hks1,hks2]
theorem s_append_make {t t' e : TypeId} {x y : Operand} {q off len cap sz k : Nat} {ag : Bool} {zs : List V} {xs : List (List V)} {ik ik' : IntKind} (ho : o.op = .call { callee:=.builtin .append,args:=#[x,y],argTypes:=#[t,t'] }) (he : elt P t = some e) (hl : lay P e = some (sz,ag)) (hs : 0 < sz) (hz : zer P e = some zs) (hzs : zs.length = sz) (hq : P.underlying t' = some (.int ik'))
  (hx : St.ev st.t x = .arc q off len cap) (hm : st.m[q]? = some (.arr true sz xs)) (hy : St.ev st.t y = .int ik k) (hk0 : 0 < k) (hfit : cap < len + k) (hb1 : (len + k) * P.bytesOf e ≤ 2 ^ 47) (hb2 : len + k ≤ 2 ^ 62)
  (h : K ⟨putT st.t o.dst (.ar st.m.length 0 (len + k)),st.m ++ [.arr true sz ((xs.drop off).take len ++ Za k zs)],st.g⟩) : OW P o st K:=by
 intro w0 E Zo gh a w Q ⟨β,M,hE,hF,hd,ht,hgh⟩
 have hvx:=ev_RV ht x
 rw [hx] at hvx
 have hvy:=ev_RV ht y
 rw [hy] at hvy
 have hvy : a.eval y = .int ik k:=hvy
 obtain ⟨i,z,hi,hz',rfl⟩:=zer_out hz
 have hisz : i.size = sz:=by
  have:=run_sz (w:=w) hl
  simp [sizeOf,typeInfo,hi] at this
  exact this
 have hzsz : z.cells.size = sz:=by simpa using hzs
 have hbytes : P.bytesOf e = i.bytes:=by simp [Program.bytesOf,hi]
 obtain ⟨_,l,hβ,⟨b1,b2,b3,b4⟩,b5,A',e1,b6⟩:=at_ar M (Agree.refl _) hm (RV_arc hvx)
 have hc:=RV_arc_cap hvx hm hβ
 have hc' : l.cap - off = cap:=by omega
 rw [hc'] at e1
 have hel : elemsV st.m (.arc q off len cap) = some ((xs.drop off).take len):=by simp [elemsV,hm]
 have hxl : ∀ y ∈ (xs.drop off).take len,y.length = sz:=by
  intro y hy
  rcases b4 with b4 | ⟨us,e',fr,k1,k2,k3,k4,k5⟩
  ·have : xs = []:=Zn (by omega)
   subst this; simp at hy
  ·exact k4.length y (Yx (Yq hy))
 have hln : ((xs.drop off).take len).length = len:=by rw [Yp,Yi]; omega
 obtain ⟨olds,o1,o2,_,o3⟩:=first_cells (P:=P) M hel hvx (n:=len) (fun z hz=>hxl z (Yq hz)) (by rw [hln]; exact Zk _)
 rw [List.take_of_length_le (by rw [hln]; exact Zk _)] at o1
 rw [e1] at o3
 have o3' : (Builtin.firstCells i.size len (.slice A' len cap)).run P w.drew = .ok olds.toArray w.drew:=by
  rw [hisz]
  have hvx' : RV (cx w.drew Zo st.m β) (.arc q off len cap) (a.eval x):=by
   exact RV.mono (cx_le_grow (Grow.drew w)) hvx
  obtain ⟨olds2,p1,p2,_,p3⟩:=first_cells (P:=P) (M.grow (Grow.drew w)) hel hvx' (n:=len) (fun z hz=>hxl z (Yq hz)) (by rw [hln]; exact Zk _)
  rw [e1] at p3
  have hsame : olds2 = olds:=by
   have g:=o3
   have g2:=p3
   have hh : ∀ (us : List Value),(Builtin.firstCells sz len (.slice A' len cap)).run P w = .ok us.toArray w → (Builtin.firstCells sz len (.slice A' len cap)).run P w.drew = .ok us.toArray w.drew:=by
    intro us hu
    cases A' with
    | none=>simpa [Builtin.firstCells] using hu
    | some ad =>
     rcases b4 with b4 | ⟨us2,e',fr,k1,k2,k3,k4,k5⟩
     ·have h0 : len = 0:=by omega
      subst h0
      simpa [Builtin.firstCells,loadCells,loadCellsFrom] using hu
     ·by_cases h0 : len = 0
      ·subst h0
       simpa [Builtin.firstCells,loadCells,loadCellsFrom] using hu
      ·have hA:=b6 (by omega)
       have hr:=(k4.drop off).take len
       obtain ⟨us3,j1,j2,j3⟩:=hr.list
       have hul : us3.length = len * sz:=by rw [j1.length,flatten_len hxl,hln]
       have q1:=run_firstCells (P:=P) (w:=w) (A:=some ad) (cp:=cap) hul (.inr ⟨l.b,off * sz,hA,fun j u hj=>by have:=j3 j u hj; rw [Zl] at this; exact this⟩) len
       have q2:=run_firstCells (P:=P) (w:=w.drew) (A:=some ad) (cp:=cap) hul (.inr ⟨l.b,off * sz,hA,fun j u hj=>by have:=j3 j u hj; rw [Zl] at this; exact this⟩) len
       rw [q1] at hu
       have : us3.toArray = us.toArray:=by injection hu
       rw [q2,this]
   have:=hh olds g
   rw [g2] at this
   have : olds2.toArray = olds.toArray:=by injection this
   simpa using congrArg Array.toList this
  rw [hsame] at p3
  exact p3
 have h48:=growslice_fits (need:=len + k) (old:=cap) (bytes:=i.bytes) (by omega) (by rw [hbytes] at hb1; omega)
 have hkb : (k : Int) * i.bytes ≤ 281474976710656:=by
  rw [hbytes] at hb1
  have h2 : k * i.bytes ≤ (len + k) * i.bytes:=Yv _ (by omega)
  have : ((k * i.bytes : Nat) : Int) ≤ 281474976710656:=by omega
  simpa using this
 have hr:=run_append_make (P:=P) (ty:=o.type) (ik:=ik) (elt_out he) hq hi hz' (by omega) (by omega) hkb o3' hfit (by omega) h48 hk0
 have hex : ∀ v w2,(Builtin.append_ #[t,t'] o.type #[a.eval x,a.eval y]).run P w = .ok v w2 → (execOp a.eval o).run P w = .ok (.value v) w2:=by
  intro v w2 hv
  simp [execOp,ho,resolve,invoke,builtin,hv]
 have hge:=grownCap_ge w (len + k) cap e
 have hlem:=grownCap_le_maxLen w (len + k) cap e (by unfold maxLen; omega)
 generalize hgc : grownCap w (len + k) cap e = gc at *
 have hcs : (olds.toArray ++ Builtin.zeroCells z.cells k ++ Builtin.zeroCells z.cells (gc - (len + k))).size = gc * sz:=by
  simp only [YE,YF,zeroCells_size,o2,hzsz,← ZG]
  congr 1; omega
 have hzl : (Builtin.zeroCells z.cells k).toList = (Za k z.cells.toList).flatten:=by
  have:=madeCells_list z.cells sz k hzsz hs
  rw [← this,← hzsz]
  rfl
 generalize hcells : (olds.toArray ++ Builtin.zeroCells z.cells k ++ Builtin.zeroCells z.cells (gc - (len + k))) = cells at hr hcs
 obtain ⟨M2,hle2⟩:=M.holes 1
 have hG : Grow w (w.drew.alloc (.cells cells e)):=(Grow.drew w).trans (Grow.alloc w.drew _)
 have hhole : (st.m ++ Za 1 Ob.hole)[st.m.length]? = some .hole:=by
  rw [Zd (by simp)]; simp
 generalize hnew : (xs.drop off).take len ++ Za k (z.cells.toList.map ofVal1) = new at *
 have hnl : new.length = len + k:=by rw [← hnew]; simp; omega
 have hsetm : (st.m ++ Za 1 Ob.hole).set st.m.length (.arr true sz new) = st.m ++ [.arr true sz new]:=by
  rw [Yy _ _ (by simp)]; simp
 have hxl2 : ∀ x ∈ new,x.length = sz:=by
  intro y hy
  rw [← hnew] at hy
  rcases ZX.1 hy with h | h
  ·exact hxl y h
  ·rw [YB h]; exact hzs
 obtain ⟨M3,hle3⟩:=M2.fill (w':=w.drew.alloc (.cells cells e)) (ob:=.arr true sz new) (l:=⟨w.heap.size,gc⟩) hhole hG (fun b hb=>by simp only [Ob.blk] at hb; split at hb <;> simp at hb; omega)
  (fun hle=>by
   refine ⟨by show new.length ≤ gc; omega,by unfold maxLen at hlem; show gc < 2 ^ 63; omega,hs,.inr ⟨cells,e,(0,0),heap_new w.drew _,hcs,NoFr.zero _,?_,.inl rfl⟩⟩
   refine RR.of (us:=olds ++ (Za k z.cells.toList).flatten) hxl2 ?_ fun j u hj=>?_
   ·have hfl : new.flatten = ((xs.drop off).take len).flatten ++ (Za k (z.cells.toList.map ofVal1)).flatten:=by rw [← hnew,ZY]
    rw [hfl]
    exact ((o1.mono (hle2.trans hle)).append (RVs_replicate (RVs_ofVal1 _ _) _))
   ·show (w.drew.alloc (.cells cells e)).cell? ⟨w.drew.heap.size,0 + j,none⟩ = some u
    rw [cell_new,Zl]
    have hlt:=(Zc.1 hj).1
    have : cells.toList[j]? = some u:=by
     rw [← hcells]
     simp only [YG,hzl]
     rw [Ze (by simpa using hlt)]
     exact hj
    simpa using this)
 rw [hsetm] at M3 hle3
 refine wp_value (v:=.slice (some ⟨w.heap.size,0,none⟩) (len + k) gc) (w':=w.drew.alloc (.cells cells e)) (hex _ _ (by rw [e1,hvy]; exact hr)) ?_
 refine ⟨_,h,_,M3,?_,hF.trans (hG.mono (fun _ q=>q.elim)),by cases o.dst <;> exact hd,(ht.mono (hle2.trans hle3)).put ?_ o.dst,hgh.mono (hle2.trans hle3)⟩
 ·rintro b ⟨p,ob,l',h3,h4,h5⟩
  rcases getElem?_append_one _ _ _ _ h3 with h3 | ⟨g5,e3⟩
  ·have hp:=(Zc.1 h3).1
   rw [Zj (by omega),Ze (by rw [M.len]; exact hp)] at h4
   exact hE b ⟨p,ob,l',h3,h4,h5⟩
  ·subst e3
   subst g5
   rw [Zi (by simp [M.len])] at h4
   cases h4
   simp only [Ob.blk] at h5
   split at h5
   ·cases h5
   ·simp at h5; subst h5; exact .inr hF.size
 ·refine RV_ar (xs:=new) (lv:=true) (sz:=sz) (l:=⟨w.heap.size,gc⟩) ?_ ?_ (by omega) (by rw [Yj]) (fun _=>by rw [Nat.zero_mul])
  ·show (st.m ++ [Ob.arr true sz new])[st.m.length]? = _
   rw [Zd (by simp)]
   simp
  ·show ((β ++ Za 1 _).set st.m.length _)[st.m.length]? = _
   rw [Zi (by simp [M.len])]
end
section
variable {P : Program} {o : Oper} {ev : Operand → V} {mT : List Ob} {base : Nat} {K : V → List Ob → Prop}
def ovOK (P : Program) (f : FuncId) (m : List Ob) (xs : List V) : Prop := ∃ (fn : Func) (t r e : TypeId) (sz : Nat) (ag : Bool) (x y : V) (q off len q' off' len' : Nat) (zs zs' : List (List V)), P.funcs[f]? = some fn ∧ (fn.name == "runtime.NumGoroutine") = false ∧ fn.body.isNone = true ∧ Extern.findNext fn = none ∧
 Extern.find fn = some (Extern.SlicesOverlaps.overlaps #[t,t] #[r]) ∧ elt P t = some e ∧ lay P e = some (sz,ag) ∧ xs = [x,y] ∧ AsAr x q off len ∧ AsAr y q' off' len' ∧ 0 < len ∧ 0 < len' ∧ q ≠ q' ∧ m[q]? = some (.arr true sz zs) ∧ m[q']? = some (.arr true sz zs') ∧ sz ≠ 1
theorem q_overlaps {f : FuncId} {x : Operand} {args : Array Operand} {ts : Array TypeId} (ho : o.op = .call { callee:=.value x,args:=args,argTypes:=ts }) (hf : ev x = .fn f [] []) (hov : ovOK P f mT (args.toList.map ev)) (h : K (.bool false) []) : Goal P o ev mT base K:=by
 refine ⟨_,_,QS.value fun w Zo m β a M A hx=>?_,h⟩
 refine ⟨.bool false,?_,rfl⟩
 obtain ⟨fn,t,r,e,sz,ag,xv,yv,q,off,len,q',off',len',zs,zs',g1,g2,g3,g4,g5,he,hl,hargs,hX,hY,hp1,hp2,hne,hmx,hmy,hsz1⟩:=hov
 rw [ho] at hx
 have hargs' : ∃ y z,args = #[y,z] ∧ ev y = xv ∧ ev z = yv:=by
  obtain ⟨l⟩:=args
  match l,hargs with
  | [y,z],hargs=>simp at hargs; exact ⟨y,z,rfl,hargs.1,hargs.2⟩
 obtain ⟨y,z,rfl,rfl,rfl⟩:=hargs'
 have hv:=hx x (by simp [Op.operands,Call.operands])
 rw [hf] at hv
 obtain ⟨us,vs,ef,j1,j2⟩:=hv
 have hus : us = #[]:=by have : us.toList = []:=j1; cases us; simp_all
 have hvs : vs = #[]:=by have : vs.toList = []:=j2; cases vs; simp_all
 subst hus; subst hvs
 have hvy:=hX.rv (hx y (by simp [Op.operands,Call.operands]))
 have hvz:=hY.rv (hx z (by simp [Op.operands,Call.operands]))
 obtain ⟨hm1,l1,hβ1,⟨a1,a2,a3,a4⟩,a5,A1,e1,a6⟩:=at_ar M A hmx hvy
 obtain ⟨hm2,l2,hβ2,⟨b1,b2,b3,b4⟩,b5,A2,e2,b6⟩:=at_ar M A hmy hvz
 have hrun : (Extern.SlicesOverlaps.overlaps #[t,t] #[r] #[a.eval y,a.eval z]).run P w = .ok (.bool false) w:=by
  rw [e1,e2]
  have hc1 : l1.cap ≠ 0:=by omega
  have hc2 : l2.cap ≠ 0:=by omega
  rcases a4 with a4 | ⟨us1,et1,fr1,k1,k2,k3,k4,k5⟩
  ·exact absurd a4 hc1
  rcases b4 with b4 | ⟨us2,et2,fr2,n1,n2,n3,n4,n5⟩
  ·exact absurd b4 hc2
  have k1 : w.heap[l1.b]? = some (.cells us1 et1 fr1):=k1
  have n1 : w.heap[l2.b]? = some (.cells us2 et2 fr2):=n1
  rw [a6 (by omega),b6 (by omega)]
  have hblk : l1.b ≠ l2.b:=fun hb=>hne (M.sep q q' _ _ l1 l2 l1.b hm1 hm2 hβ1 hβ2 (by simp [Ob.blk,hc1]) (by simp [Ob.blk,hc2,hb]))
  have hlt : off * sz < us1.size:=by rw [k2]; exact Nat.mul_lt_mul_of_pos_right (by omega) a3
  refine Lib.run_overlaps_apart w t r e (elt_out he) sz (fun w=>run_sz hl) _ _ _ _ _ _ hblk et1 et2 us1.size us2.size ?_ ?_ ?_ ?_ ?_
  ·simp [World.shape?,k1]
  ·simp [World.shape?,n1]
  ·rw [n2]
   exact Nat.mul_ne_zero hc2 (by omega)
  ·have:=k3 (off * sz) (by omega)
   simp only [World.frozen?,k1]
   simpa using this
  ·have:=k3 us1.size (by unfold tlS; rw [if_neg hsz1]; omega)
   simp only [World.frozen?,k1]
   simpa using this
 have hcall:=run_callFunc_extern (P:=P) g1 g2 g3 g4 g5 #[a.eval y,a.eval z] w
 rw [hrun] at hcall
 simp only [execOp,ho,resolve,ef,Deferred.ofValue,Sem.run_bind,Sem.run_pure,Result.andThen_ok,invoke]
 simpa using hcall
end
end Go.Pm
end
section
namespace Go.Pm
open Go.RowKit
def storeVC (P : Program) (t : TypeId) (m : List Ob) (x y : V) (K : List Ob → Prop) : Prop:=match lay P t with
 | some (sz,_)=>match cellsV m y with
   | some ys=>match x with
     | .ptr q off=>match m[q]? with
       | some (.box true cs)=>ys.all (oneV m) = true ∧ ys.length = sz ∧ off + ys.length ≤ cs.length ∧ K (m.set q (.box true (over cs off ys)))
       | _=>False
     | .eptr q i off=>match m[q]? with
       | some (.arr true esz xs)=>i < xs.length ∧ ys.all (oneV m) = true ∧ ys.length = sz ∧ off + ys.length ≤ esz ∧ K (m.set q (.arr true esz (xs.set i (over (xs.getD i []) off ys))))
       | _=>False
     | _=>False
   | none=>False
 | none=>False
def appVC (P : Program) (t t' : TypeId) (m : List Ob) (x y : V) (K : V → List Ob → Prop) : Prop:=match elt P t with
 | some e=>match lay P e,zer P e with
   | some (sz,_),some zs=>match srcV m sz y with
     | some ys=>0 < sz ∧ zs.length = sz ∧ seqT P t' = true ∧ (∀ z ∈ ys,z.length = sz) ∧ (∀ z ∈ ys.flatten,oneV m z = true) ∧ match x with
       | .ar q 0 n=>match m[q]? with
         | some (.arr true sz' xs)=>sz' = sz ∧ xs.length = n ∧ (n + ys.length) * P.bytesOf e ≤ 2 ^ 47 ∧ n + ys.length ≤ 2 ^ 62 ∧ K (.ar m.length 0 (n + ys.length)) (m.set q .dead ++ [.arr true sz (xs ++ ys)])
         | _=>False
       | .ar q (off + 1) n=>match m[q]? with
         | some (.arr true sz' xs)=>sz' = sz ∧ xs.length = off + 1 + n ∧ (n + ys.length) * P.bytesOf e ≤ 2 ^ 47 ∧ n + ys.length ≤ 2 ^ 62 ∧ K (.ar m.length (off + 1) (n + ys.length)) (m.set q .dead ++ [.arr true sz (xs ++ ys)]) ∧ K (.ar m.length 0 (n + ys.length)) (m.set q .dead ++ [.arr true sz (xs.drop (off + 1) ++ ys)])
         | _=>False
       | .e0=>ys.length * P.bytesOf e ≤ 2 ^ 47 ∧ ys.length ≤ 2 ^ 62 ∧ K (.ar m.length 0 ys.length) (m ++ [.arr true sz ys])
       | .nil=>ys.length * P.bytesOf e ≤ 2 ^ 47 ∧ ys.length ≤ 2 ^ 62 ∧ K (.ar (m.length + 1) 0 ys.length) (m ++ [.dead,.arr true sz ys])
       | .arc q off len cap=>match m[q]? with
         | some (.arr true sz' xs)=>sz' = sz ∧ len + ys.length ≤ cap ∧ off + len + ys.length ≤ xs.length ∧ K (.arc q off (len + ys.length) cap) (m.set q (.arr true sz (xs.take (off + len) ++ ys ++ xs.drop (off + len + ys.length))))
         | _=>False
       | _=>False
     | none=>match x with
       | .arc q off len cap=>match y with
         | .int _ n=>match m[q]?,intT P t' with
           | some (.arr true sz' xs),some _=>sz' = sz ∧ 0 < sz ∧ zs.length = sz ∧ 0 < n ∧ cap < len + n.toNat ∧ (len + n.toNat) * P.bytesOf e ≤ 2 ^ 47 ∧ len + n.toNat ≤ 2 ^ 62 ∧ K (.ar m.length 0 (len + n.toNat)) (m ++ [.arr true sz ((xs.drop off).take len ++ Za n.toNat zs)])
           | _,_=>False
         | _=>False
       | _=>False
   | _,_=>False
 | none=>False
def arV : V → Option (Nat × Nat × Nat)
 | .ar q off len=>some (q,off,len)
 | .arc q off len _=>some (q,off,len)
 | _=>none
theorem arV_as {x : V} {q off len : Nat} (h : arV x = some (q,off,len)) : AsAr x q off len:=by
 cases x <;> simp only [arV,Option.some.injEq,Prod.mk.injEq,reduceCtorEq] at h
 ·obtain ⟨rfl,rfl,rfl⟩:=h; exact .inl rfl
 ·obtain ⟨rfl,rfl,rfl⟩:=h; exact .inr ⟨_,rfl⟩
def cpyVC (P : Program) (t : TypeId) (m : List Ob) (x y : V) (K : V → List Ob → Prop) : Prop:=match elt P t with
 | some e=>match lay P e with
   | some (sz,_)=>match elemsV m y,arV x with
     | some ys,some (q,off,len)=>match m[q]? with
       | some (.arr true sz' xs)=>sz' = sz ∧ 0 < sz ∧ (∀ z ∈ ys.take (Zv ys.length len),z.length = sz) ∧ (∀ z ∈ (ys.take (Zv ys.length len)).flatten,oneV m z = true) ∧ K (.int .i64 (Zv ys.length len : Nat)) (m.set q (.arr true sz (xs.take off ++ ys.take (Zv ys.length len) ++ xs.drop (off + Zv ys.length len))))
       | _=>False
     | _,_=>False
   | none=>False
 | none=>False
def ovVC (P : Program) (f : FuncId) (fs cs xs : List V) (m : List Ob) (K : V → List Ob → Prop) : Prop:=fs = [] ∧ cs = [] ∧ ovOK P f m xs ∧ K (.bool false) m
def lcV (P : Program) (c : Call) (ev : Operand → V) (m : List Ob) (K : V → List Ob → Prop) : Prop:=match c.callee with
 | .value x=>match ev x with
   | .fn f fs cs=>lcVC P f (fs ++ c.args.toList.map ev ++ cs) m K ∨ ovVC P f fs cs (c.args.toList.map ev) m K
   | _=>False
 | _=>False
def tmpOf : Operand → Option Tmp
 | .tmp i=>some i
 | _=>none
def clrVC (P : Program) (t : TypeId) (m : List Ob) (x : V) (K : List Ob → Prop) : Prop:=match elt P t with
 | some e=>match lay P e,zer P e with
   | some (sz,_),some zs=>match arV x with
     | some (q,off,len)=>match m[q]? with
       | some (.arr true sz' xs)=>sz' = sz ∧ 0 < sz ∧ zs.length = sz ∧ zs.all (oneV m) = true ∧ K (m.set q (.arr true sz (xs.take off ++ Za len zs ++ xs.drop (off + len))))
       | _=>False
     | _=>False
   | _,_=>False
 | none=>False
def nilop (op : BinOp) (b : Bool) (K : V → Prop) : Prop:=match op with
 | .eql=>K (.bool b)
 | .neq=>K (.bool (!b))
 | _=>False
def nilS (P : Program) (op : BinOp) (t : TypeId) (m : List Ob) (x : V) (K : V → Prop) : Prop:=match elt P t with
 | some _=>match x with
   | .nil=>nilop op true K
   | x=>∃ xs,elemsV m x = some xs ∧ ∀ b,(b = true → xs = []) → nilop op b K
 | none=>False
def bnX (P : Program) (q : Bool) (op : BinOp) (e : TypeId) (m : List Ob) (x y : V) (K : V → Prop) : Prop:=match y with
 | .nil=>match q with
   | false=>nilS P op e m x K
   | true=>binVC P op e x .nil K
 | y=>binVC P op e x y K
def S1 (P : Program) (o : Oper) (st : St) (K : St → Prop) : Prop:=match o.op with
 | .store t x y=>storeVC P t st.m (St.ev st.t x) (St.ev st.t y) (fun m'=>K ⟨putT st.t o.dst .junk,m',st.g⟩)
 | .mapUpdate t x y z=>muVC P t st.m (St.ev st.t x) (St.ev st.t y) (St.ev st.t z) (fun m'=>K ⟨putT st.t o.dst .junk,m',st.g⟩)
 | .mapEntry t x y=>meVC P t st.m (St.ev st.t x) (St.ev st.t y) (fun r m'=>K ⟨putT st.t o.dst r,m',st.g⟩)
 | .entryStore _ x s z=>esVC st.m (St.ev st.t x) (St.ev st.t s) (St.ev st.t z) (fun m'=>K ⟨putT st.t o.dst .junk,m',st.g⟩)
 | .call c=>match c.callee,c.args.toList,c.argTypes.toList with
   | .builtin .append,[x,y],[t,t']=>appVC P t t' st.m (St.ev st.t x) (St.ev st.t y) (fun r m'=>K ⟨putT st.t o.dst r,m',st.g⟩)
   | .builtin .copy,[x,y],[t,_]=>cpyVC P t st.m (St.ev st.t x) (St.ev st.t y) (fun r m'=>K ⟨putT st.t o.dst r,m',st.g⟩)
   | .builtin .clear,[x],[t]=>clrVC P t st.m (St.ev st.t x) (fun m'=>K ⟨putT st.t o.dst (.tup []),m',st.g⟩)
   | .value x,_,_=>cVC P c (St.ev st.t) st.m st.m.length (fun r new=>K ⟨putT st.t o.dst r,st.m ++ new,st.g⟩) ∨ lcV P c (St.ev st.t) st.m (fun r m'=>K ⟨putT st.t o.dst r,m',st.g⟩)
   | _,_,_=>cVC P c (St.ev st.t) st.m st.m.length (fun r new=>K ⟨putT st.t o.dst r,st.m ++ new,st.g⟩)
 | .buildSlice t len ps=>bsliceVC P t len st.m st.m.length (St.ev st.t) ps.toList (fun r new=>K ⟨putT st.t o.dst r,st.m ++ new,st.g⟩)
 | .binOp op t x y _=>bnX P false op t st.m (St.ev st.t x) (St.ev st.t y) (fun r=>K ⟨putT st.t o.dst r,st.m,st.g⟩)
 | op=>Q1 P op (St.ev st.t) st.m st.m.length (fun r new=>K ⟨putT st.t o.dst r,st.m ++ new,st.g⟩)
section
variable {P : Program} {o : Oper} {st : St} {K : St → Prop}
theorem OW.mono {K' : St → Prop} (h : OW P o st K) (hk : ∀ st,K st → K' st) : OW P o st K' :=
 fun w0 E Zo gh a w Q r=>Oper.wp_mono (fun a w ⟨st',k,r'⟩=>⟨st',hk st' k,r'⟩) (h w0 E Zo gh a w Q r)
theorem OW_of_Q1 (h : Q1 P o.op (St.ev st.t) st.m st.m.length (fun r new=>K ⟨putT st.t o.dst r,st.m ++ new,st.g⟩)) : OW P o st K:=by
 obtain ⟨r,new,h1,h2⟩:=Q1_sound h
 exact OW_of_QS h1 h2
theorem run_nilop {w : World} {op : BinOp} {t e : TypeId} {A : Option Addr} {n c : Nat} {K' : V → Prop} (he : elt P t = some e) (h : nilop op A.isNone K') (xo yo : Operand) :
  ∃ b,K' (.bool b) ∧ ((do eqGuard op t xo yo (.slice A n c) (.slice none 0 0); binOp op t (.slice A n c) (.slice none 0 0)) : Sem Value).run P w = .ok (.bool b) w:=by
 have hg : (eqGuard op t xo yo (.slice A n c) (.slice none 0 0)).run P w = .ok () w:=by
  unfold eqGuard
  cases op <;> simp
 cases op <;> simp only [nilop] at h <;> try exact h.elim
 ·refine ⟨_,h,?_⟩
  simp only [Sem.run_bind,hg,Result.andThen_ok,binOp]
  simp [run_equal_slice_nil w t e A n c (elt_out he)]
 ·refine ⟨_,h,?_⟩
  simp only [Sem.run_bind,hg,Result.andThen_ok,binOp]
  simp [run_equal_slice_nil w t e A n c (elt_out he)]
theorem s_nil {op : BinOp} {t u : TypeId} {x y : Operand} (ho : o.op = .binOp op t x y u) (hy : St.ev st.t y = .nil) (h : nilS P op t st.m (St.ev st.t x) (fun r=>K ⟨putT st.t o.dst r,st.m,st.g⟩)) : OW P o st K:=by
 intro w0 E Zo gh a w Q ⟨β,M,hE,hF,hd,ht,hgh⟩
 unfold nilS at h
 split at h
 ·rename_i e he
  have hvy:=ev_RV ht y
  rw [hy] at hvy
  have hvy : a.eval y = .slice none 0 0:=hvy
  have hvx:=ev_RV ht x
  have key : ∀ A n c,a.eval x = .slice A n c → nilop op A.isNone (fun r=>K ⟨putT st.t o.dst r,st.m,st.g⟩) → o.wp P a w (fun a' w'=>∃ st',K st' ∧ Rel w0 E Zo gh st' a' w') Q:=by
   intro A n c ex hk
   obtain ⟨b,h1,h2⟩:=run_nilop (P:=P) (w:=w) (n:=n) (c:=c) he hk x y
   refine wp_value (v:=.bool b) (w':=w) ?_ ⟨_,h1,β,M,hE,hF,by cases o.dst <;> exact hd,ht.put (x:=.bool b) rfl o.dst,hgh⟩
   simp only [execOp,ho]
   rw [ex,hvy,Sem.run_bind,h2]
   rfl
  split at h
  ·rename_i hx
   rw [hx] at hvx
   exact key none 0 0 hvx h
  ·obtain ⟨xs,h1,h2⟩:=h
   obtain ⟨A',cp,e1,g1,g2,g3⟩:=elems_at M (Agree.refl _) h1 hvx
   refine key A' _ cp e1 (h2 _ fun hb=>?_)
   rcases g3 with g3 | ⟨sz,b,p,_,g3,_⟩
   ·exact g3
   ·rw [g3] at hb; cases hb
 ·exact h.elim
theorem S1_sound (h : S1 P o st K) : OW P o st K:=by
 unfold S1 at h
 split at h
 ·rename_i t x y ho
  unfold storeVC at h
  split at h
  ·rename_i sz ag hl
   split at h
   ·rename_i ys hy
    split at h
    ·rename_i q off hx
     split at h
     ·rename_i cs hm
      exact s_store_box ho hl hx hm hy (fun z hz=>Zq.1 h.1 z hz) h.2.1 h.2.2.1 h.2.2.2
     ·exact h.elim
    ·rename_i q i off hx
     split at h
     ·rename_i esz xs hm
      exact s_store_arr ho hl hx hm h.1 hy (fun z hz=>Zq.1 h.2.1 z hz) h.2.2.1 h.2.2.2.1 h.2.2.2.2
     ·exact h.elim
    ·exact h.elim
   ·exact h.elim
  ·exact h.elim
 ·rename_i t x y z ho
  exact s_mapUpdate (.inl ho) h
 ·rename_i t x y ho
  exact s_mapEntry ho h
 ·rename_i t x s z ho
  exact s_entryStore ho h
 ·rename_i c ho
  split at h
  ·rename_i x y t t' hc ha ht
   obtain ⟨callee,args,ts⟩:=c
   simp only at hc ha ht
   subst hc
   have hargs : args = #[x,y]:=by obtain ⟨l⟩:=args; simp at ha; subst ha; rfl
   have hts : ts = #[t,t']:=by obtain ⟨l⟩:=ts; simp at ht; subst ht; rfl
   subst hargs; subst hts
   unfold appVC at h
   split at h
   ·rename_i e he
    split at h
    ·rename_i sz ag zs hl hz
     split at h
     ·rename_i ys hy
      obtain ⟨a1,a2,a3,a4,a5,h⟩:=h
      split at h
      ·rename_i q n hx
       split at h
       ·rename_i sz' xs hm
        obtain ⟨rfl,b1,b2,b3,b4⟩:=h
        exact s_append (ty:=o.type) ho he hl a1 hz a2 a3 hx hm b1 (src_of hy a4) a4 a5 b2 b3 b4
       ·exact h.elim
      ·rename_i q off n hx
       split at h
       ·rename_i sz' xs hm
        obtain ⟨rfl,b1,b2,b3,b4,b5⟩:=h
        exact s_appendO (ty:=o.type) ho he hl a1 hz a2 a3 hx hm b1 (src_of hy a4) a4 a5 b2 b3 b4 b5
       ·exact h.elim
      ·rename_i hx
       obtain ⟨b2,b3,b4⟩:=h
       obtain ⟨r,new,k1,k2⟩:=q_append0 (ev:=St.ev st.t) (mT:=st.m) (base:=st.m.length) (K:=fun r new=>K ⟨putT st.t o.dst r,st.m ++ new,st.g⟩) ho he hl a1 hz a2 a3 (.inr hx) (src_of hy a4) a4 b2 b3 b4
       exact OW_of_QS k1 k2
      ·rename_i hx
       obtain ⟨b2,b3,b4⟩:=h
       exact s_append_nil (ty:=o.type) ho he hl a1 hz a2 a3 hx (src_of hy a4) a4 a5 b2 b3 b4
      ·rename_i q off len cap hx
       split at h
       ·rename_i sz' xs hm
        obtain ⟨rfl,b1,b2,b4⟩:=h
        exact s_append_arc (ty:=o.type) ho he hl a1 hz a2 a3 hx hm (src_of hy a4) a4 a5 b1 b2 b4
       ·exact h.elim
      ·exact h.elim
     ·split at h
      ·rename_i q off len cap hx
       split at h
       ·rename_i ik n hyv
        split at h
        ·rename_i sz' xs ik' hm hit
         obtain ⟨rfl,b1,b2,b3,b4,b5,b6,b7⟩:=h
         have hn : n = ((n.toNat : Nat) : Int):=by omega
         rw [hn] at hyv
         have hu : P.underlying t' = some (.int ik'):=by
          unfold intT at hit
          split at hit
          ·rename_i hu; rw [hu]; simpa using hit
          ·cases hit
         exact s_append_make ho he hl b1 hz b2 hu hx hm hyv (by omega) b4 b5 b6 b7
        ·exact h.elim
       ·exact h.elim
      ·exact h.elim
    ·exact h.elim
   ·exact h.elim
  ·rename_i x y t t' hc ha ht
   obtain ⟨callee,args,ts⟩:=c
   simp only at hc ha ht
   subst hc
   have hargs : args = #[x,y]:=by obtain ⟨l⟩:=args; simp at ha; subst ha; rfl
   have hts : ts = #[t,t']:=by obtain ⟨l⟩:=ts; simp at ht; subst ht; rfl
   subst hargs; subst hts
   unfold cpyVC at h
   split at h
   ·rename_i e he
    split at h
    ·rename_i sz ag hl
     split at h
     ·rename_i ys q off len hy hx
      split at h
      ·rename_i sz' xs hm
       obtain ⟨rfl,b1,b2,b3,b4⟩:=h
       exact s_copy ho he hl b1 (arV_as hx) hm hy b2 b3 b4
      ·exact h.elim
     ·exact h.elim
    ·exact h.elim
   ·exact h.elim
  ·rename_i x t hc ha ht
   obtain ⟨callee,args,ts⟩:=c
   simp only at hc ha ht
   subst hc
   have hargs : args = #[x]:=by obtain ⟨l⟩:=args; simp at ha; subst ha; rfl
   have hts : ts = #[t]:=by obtain ⟨l⟩:=ts; simp at ht; subst ht; rfl
   subst hargs; subst hts
   unfold clrVC at h
   split at h
   ·rename_i e he
    split at h
    ·rename_i sz ag zs hl hz
     split at h
     ·rename_i q off len hx
      split at h
      ·rename_i sz' xs hm
       obtain ⟨rfl,b1,b2,b3,b4⟩:=h
       exact s_clear ho he hl b1 hz b2 (fun z hz=>Zq.1 b3 z hz) (arV_as hx) hm b4
      ·exact h.elim
     ·exact h.elim
    ·exact h.elim
   ·exact h.elim
  ·rename_i x hc
   rcases h with h | h
   ·refine OW_of_Q1 ?_
    rw [ho]
    exact h
   ·obtain ⟨callee,args,ts⟩:=c
    simp only at hc
    subst hc
    unfold lcV at h
    simp only at h
    split at h
    ·rename_i f fs cs hf
     rcases h with h | ⟨rfl,rfl,h2,h3⟩
     ·exact s_callL ho hf h
     ·obtain ⟨r,new,k1,k2⟩:=q_overlaps (ev:=St.ev st.t) (mT:=st.m) (base:=st.m.length) (K:=fun r new=>r = .bool false ∧ new = []) ho hf h2 ⟨rfl,rfl⟩
      obtain ⟨rfl,rfl⟩:=k2
      refine OW_of_QS k1 ?_
      rw [ZW]
      exact h3
    ·exact h.elim
  ·refine OW_of_Q1 ?_
   rw [ho]
   exact h
 ·rename_i t len ps ho
  obtain ⟨r,new,k1,k2⟩:=bslice_sound ho h
  exact OW_of_QS k1 k2
 ·rename_i op t x y u ho
  unfold bnX at h
  have hq : binVC P op t (St.ev st.t x) (St.ev st.t y) (fun r=>K ⟨putT st.t o.dst r,st.m,st.g⟩) → OW P o st K:=by
   intro h
   refine OW_of_Q1 ?_
   rw [ho]
   simpa [Q1] using h
  split at h
  ·rename_i hy
   exact s_nil ho hy h
  ·exact hq h
 ·refine OW_of_Q1 h
end
end Go.Pm
end
section
namespace Go.Pm
open Go.RowKit
def gv (ds : List (Option Tmp)) (o : Oper) (t : List V) (A B : Prop) : Prop:=match o.guard with
 | none=>A
 | some (j,want)=>match ds.getD j none with
   | some d=>match t.getD d .junk with
     | .bool b=>match b with
       | true=>match want with
         | true=>A
         | false=>B
       | false=>match want with
         | true=>B
         | false=>A
     | .tup []=>B
     | _=>False
   | none=>False
def wantT (ds : List (Option Tmp)) (o : Oper) (t : List V) : Option Bool:=match o.guard with
 | none=>some true
 | some (j,want)=>match ds.getD j none with
   | some d=>match t.getD d .junk with
     | .bool b=>some (b == want)
     | .tup []=>some false
     | _=>none
   | none=>none
theorem gv_cases {ds : List (Option Tmp)} {o : Oper} {t : List V} {A B : Prop} (h : gv ds o t A B) : (wantT ds o t = some true ∧ A) ∨ (wantT ds o t = some false ∧ B):=by
 unfold gv at h
 unfold wantT
 cases hg : o.guard with
 | none=>rw [hg] at h; exact .inl ⟨rfl,h⟩
 | some g =>
  obtain ⟨j,want⟩:=g
  rw [hg] at h
  simp only at h ⊢
  cases hd : ds.getD j none with
  | none=>rw [hd] at h; exact h.elim
  | some d =>
   rw [hd] at h
   simp only at h ⊢
   cases hx : t.getD d .junk <;> rw [hx] at h <;> try simp only at h
   case bool b=>cases b <;> cases want <;> simp_all
   case tup xs =>
    cases xs with
    | cons x xs=>exact h.elim
    | nil=>exact .inr ⟨rfl,h⟩
theorem wantT_sound {ops : Array Oper} {c : Cx} {o : Oper} {t : List V} {x : V} {a : Act} {b : Bool} (k : wantT (dsts ops) o t = some b)
  (h : ∀ j want d,o.guard = some (j,want) → (ops[j]?).bind (·.dst) = some d → RV c (t.getD d .junk) (a.tmps.getD d undef)) :
  Region.wanted o (yielded ops a.tmps) = b:=by
 unfold wantT at k
 unfold Region.wanted
 cases hg : o.guard with
 | none=>rw [hg] at k; simpa using k
 | some g =>
  obtain ⟨j,want⟩:=g
  rw [hg] at k
  simp only at k ⊢
  have hd : (dsts ops).getD j none = (ops[j]?).bind (·.dst):=by
   unfold dsts
   rw [Zm,Zf,Zs]
   cases ops[j]? <;> rfl
  rw [hd] at k
  unfold yielded
  cases hj : (ops[j]?).bind (·.dst) with
  | none=>rw [hj] at k; cases k
  | some d =>
   rw [hj] at k
   simp only at k
   have hv:=h j want d hg hj
   cases hx : t.getD d .junk <;> rw [hx] at k hv <;> try simp only [reduceCtorEq,Option.some.injEq] at k
   case bool b' =>
    have hv' : a.tmps.getD d undef = .bool b':=hv
    have h3 : a.tmps[d]? = some (.bool b'):=by
     rw [Zb] at hv'
     cases h4 : a.tmps[d]? with
     | none=>rw [h4] at hv'; cases hv'
     | some v=>rw [h4] at hv'; simpa using hv'
    rw [ZD,h3]
    subst k
    cases b' <;> cases want <;> rfl
   case tup xs =>
    cases xs with
    | cons x xs=>cases k
    | nil =>
     simp only [Option.some.injEq] at k
     subst k
     rw [ZD]
     rcases udf_cases hv with e | e <;> rw [e] <;> rfl
abbrev Res:=Option (V × List Ob)
def valOf : Res → V
 | some (r,_)=>r
 | none=>.tup []
def newOf : Res → List Ob
 | some (_,n)=>n
 | none=>[]
def Run (P : Program) (ds : List (Option Tmp)) : List Oper → St → List Res → St → Prop
 | [],st,[],st'=>st' = st
 | o :: os,st,some (r,new) :: rs,st'=>wantT ds o st.t = some true ∧ QS P o (St.ev st.t) st.m st.m.length r new ∧ Run P ds os ⟨putT st.t o.dst r,st.m ++ new,st.g⟩ rs st'
 | o :: os,st,none :: rs,st'=>wantT ds o st.t = some false ∧ Run P ds os ⟨putT st.t o.dst (.tup []),st.m,st.g⟩ rs st'
 | _,_,_,_=>False
def runT : List Oper → List Res → List Bool → List V → List V
 | o :: os,r :: rs,l :: ls,t=>runT os rs ls (if l then putT t o.dst (valOf r) else t)
 | _,_,_,t=>t
def flatM : List Res → List Bool → List Ob
 | r :: rs,l :: ls=>(if l then newOf r else Za (newOf r).length .hole) ++ flatM rs ls
 | _,_=>[]
def pre (i n : Nat) : List Bool:=Za i true ++ Za (n - i) false
theorem putT_length (t : List V) (d : Option Tmp) (x : V) : (putT t d x).length = t.length:=by cases d <;> simp [putT]
theorem putT_getD (t : List V) (d : Option Tmp) (x : V) (s : Nat) : (putT t d x).getD s .junk = if d = some s ∧ s < t.length then x else t.getD s .junk:=by
 cases d with
 | none=>simp [putT]
 | some d =>
  simp only [putT,Option.some.injEq]
  rw [Zm,Zm,ZQ]
  by_cases h : d = s
  ·subst h
   by_cases hl : d < t.length
   ·simp [hl]
   ·simp [hl]
  ·simp [h]
theorem runT_agree (s : Nat) : ∀ (os : List Oper) (rs : List Res) (F G : List Bool) (t t' : List V),F.length = G.length → t.length = t'.length → (∀ (j : Nat) (o : Oper),os[j]? = some o → o.dst = some s → F[j]? = G[j]?) →
  t.getD s .junk = t'.getD s .junk → (runT os rs F t).getD s .junk = (runT os rs G t').getD s .junk
 | o :: os,r :: rs,l :: ls,g :: gs,t,t',hF,ht,h,e=>by
   simp only [runT]
   refine runT_agree s os rs ls gs _ _ (by simpa using hF) ?_ (fun j o' hj hd=>by simpa using h (j + 1) o' (by simpa using hj) hd) ?_
   ·split <;> split <;> simp only [putT_length,ht]
   ·by_cases hd : o.dst = some s
    ·have hlg : l = g:=by simpa using h 0 o rfl hd
     subst hlg
     split
     ·rw [putT_getD,putT_getD,ht,e]
     ·exact e
    ·have q : ∀ (u : List V) (b : Bool),(if b = true then putT u o.dst (valOf r) else u).getD s .junk = u.getD s .junk:=by
      intro u b
      split
      ·rw [putT_getD,if_neg (fun h=>hd h.1)]
      ·rfl
     rw [q,q,e]
 | [],_,_,_,t,t',_,_,_,e=>by simpa [runT] using e
 | _ :: _,[],_,_,t,t',_,_,_,e=>by simpa [runT] using e
 | _ :: _,_ :: _,[],[],t,t',_,_,_,e=>by simpa [runT] using e
 | _ :: _,_ :: _,[],_ :: _,t,t',h,_,_,_=>by simp at h
 | _ :: _,_ :: _,_ :: _,[],t,t',h,_,_,_=>by simp at h
theorem putT_comm (t : List V) (d e : Option Tmp) (x y : V) (h : ∀ s,d = some s → e ≠ some s) : putT (putT t d x) e y = putT (putT t e y) d x:=by
 cases d with
 | none=>rfl
 | some d =>
  cases e with
  | none=>rfl
  | some e =>
   have : d ≠ e:=fun q=>h d rfl (by rw [q])
   simp only [putT]
   exact List.set_comm _ _ this
theorem runT_put (d : Option Tmp) (x : V) : ∀ (os : List Oper) (rs : List Res) (F : List Bool) (t : List V),(∀ o ∈ os,∀ s,d = some s → o.dst ≠ some s) → runT os rs F (putT t d x) = putT (runT os rs F t) d x
 | o :: os,r :: rs,l :: ls,t,h=>by
   simp only [runT]
   cases l
   ·simp only [ZZ,if_false]
    exact runT_put d x os rs ls t (fun o' ho'=>h o' (ZE _ ho'))
   ·simp only [if_true]
    rw [putT_comm _ _ _ _ _ (h o Zx)]
    exact runT_put d x os rs ls _ (fun o' ho'=>h o' (ZE _ ho'))
 | [],_,_,t,_=>by simp [runT]
 | _ :: _,[],_,t,_=>by simp [runT]
 | _ :: _,_ :: _,[],t,_=>by simp [runT]
theorem runT_list : ∀ (os : List Oper) (rs : List Res) (F : List Bool) (t : List V) (i : Nat) (o : Oper) (r : Res),os[i]? = some o → rs[i]? = some r → F[i]? = some false →
  (∀ (j : Nat) (o' : Oper),os[j]? = some o' → j ≠ i → ∀ s,o.dst = some s → o'.dst ≠ some s) → runT os rs (F.set i true) t = putT (runT os rs F t) o.dst (valOf r)
 | o :: os,r :: rs,l :: ls,t,0,o',r',h1,h2,h3,h=>by
   simp only [ZK,Option.some.injEq] at h1 h2 h3
   subst h1; subst h2; subst h3
   simp only [List.set_cons_zero,runT,if_true,ZZ,if_false]
   refine runT_put _ _ os rs ls t (fun o' ho' s hs=>?_)
   obtain ⟨j,hj⟩:=List.getElem?_of_mem ho'
   exact h (j + 1) o' (by simpa using hj) (by omega) s hs
 | o :: os,r :: rs,l :: ls,t,i + 1,o',r',h1,h2,h3,h=>by
   simp only [Ya] at h1 h2 h3
   simp only [YK,runT]
   exact runT_list os rs ls _ i o' r' h1 h2 h3 (fun j o'' hj hne=>h (j + 1) o'' (by simpa using hj) (by omega))
 | [],_,_,_,_,_,_,h1,_,_,_=>by simp at h1
 | _ :: _,[],_,_,_,_,_,_,h2,_,_=>by simp at h2
 | _ :: _,_ :: _,[],_,_,_,_,_,_,h3,_=>by simp at h3
theorem flatM_append : ∀ (rs rs' : List Res) (F F' : List Bool),F.length = rs.length → flatM (rs ++ rs') (F ++ F') = flatM rs F ++ flatM rs' F'
 | [],rs',F,F',h=>by
   have : F = []:=Zn h
   subst this; simp [flatM]
 | r :: rs,rs',l :: ls,F',h=>by simp [flatM,flatM_append rs rs' ls F' (by simpa using h)]
 | _ :: _,_,[],_,h=>by simp at h
theorem flatM_length : ∀ (rs : List Res) (F G : List Bool),F.length = rs.length → G.length = rs.length → (flatM rs F).length = (flatM rs G).length
 | [],F,G,h1,h2=>by simp [flatM]
 | r :: rs,l :: ls,g :: gs,h1,h2=>by
   simp only [flatM,ZO]
   rw [flatM_length rs ls gs (by simpa using h1) (by simpa using h2)]
   cases l <;> cases g <;> simp
 | _ :: _,[],_,h,_=>by simp at h
 | _ :: _,_ :: _,[],_,h=>by simp at h
theorem flatM_agree : ∀ (rs : List Res) (F : List Bool),F.length = rs.length → ∀ (p : Nat) (ob : Ob),(flatM rs (Za rs.length true))[p]? = some ob → (flatM rs F)[p]? = some ob ∨ (flatM rs F)[p]? = some .hole
 | [],F,h,p,ob,hp=>by simp [flatM] at hp
 | r :: rs,l :: ls,h,p,ob,hp=>by
   simp only [ZT,Zh,flatM,if_true] at hp ⊢
   have hl : (if l = true then newOf r else Za (newOf r).length .hole).length = (newOf r).length:=by cases l <;> simp
   rcases ZN p (newOf r).length with hlt | hge
   ·rw [Ze hlt] at hp
    rw [Ze (by rw [hl]; exact hlt)]
    cases l
    ·refine .inr ?_
     simp [hlt]
    ·exact .inl (by simpa using hp)
   ·rw [Zd hge] at hp
    rw [Zd (by rw [hl]; exact hge),hl]
    exact flatM_agree rs ls (by simpa using h) _ _ hp
 | _ :: _,[],h,_,_,_=>by simp at h
theorem fills_mid (X Y new : List Ob) : fills (X ++ Za new.length .hole ++ Y) X.length new = X ++ new ++ Y:=by
 induction new generalizing X with
 | nil=>simp [fills]
 | cons x xs ih =>
  simp only [fills,ZT,Zh]
  have h1 : (X ++ Ob.hole :: Za xs.length .hole ++ Y).set X.length x = (X ++ [x]) ++ Za xs.length .hole ++ Y:=by
   rw [Yr,Yy _ _ (Zk _)]
   simp
  rw [h1]
  have:=ih (X ++ [x])
  simp only [ZO,YL] at this
  rw [this]
  simp
def memAt (rs : List Res) (m : List Ob) (i : Nat) : List Ob:=m ++ flatM (rs.take i) (Za i true)
theorem split_at {α : Type} {l : List α} {i : Nat} {x : α} (h : l[i]? = some x) : l = l.take i ++ x :: l.drop (i + 1):=by
 have hi:=(Zc.1 h).1
 have hx:=(Zc.1 h).2
 rw [← hx,List.getElem_cons_drop]
 exact (Yd i l).symm
theorem flatM_at {rs : List Res} {F : List Bool} {i : Nat} {r : Res} {b : Bool} (hF : F.length = rs.length) (hr : rs[i]? = some r) (hb : F[i]? = some b) :
  flatM rs F = flatM (rs.take i) (F.take i) ++ (if b then newOf r else Za (newOf r).length .hole) ++ flatM (rs.drop (i + 1)) (F.drop (i + 1)):=by
 have e1:=split_at hr
 have e2:=split_at hb
 have:=flatM_append (rs.take i) (r :: rs.drop (i + 1)) (F.take i) (b :: F.drop (i + 1)) (by simp [hF])
 rw [← e1,← e2] at this
 rw [this]
 simp [flatM]
theorem memAt_agree {rs : List Res} {F : List Bool} {i : Nat} {m : List Ob} (hF : F.length = rs.length) (hi : i ≤ rs.length) : Agree (memAt rs m i) (m ++ flatM rs F):=by
 intro p ob hp
 unfold memAt at hp
 rcases ZN p m.length with hlt | hge
 ·rw [Ze hlt] at hp
  rw [Ze hlt]
  exact .inl hp
 ·rw [Zd hge] at hp
  rw [Zd hge]
  refine flatM_agree rs F hF _ ob ?_
  have h1:=flatM_append (rs.take i) (rs.drop i) (Za i true) (Za (rs.length - i) true) (by simp [hi])
  rw [Yd,ZM,show i + (rs.length - i) = rs.length by omega] at h1
  rw [h1]
  exact getElem?_append_old hp _
theorem memAt_length {rs : List Res} {F : List Bool} {i : Nat} {m : List Ob} (hF : F.length = rs.length) (hi : i ≤ rs.length) : (memAt rs m i).length = (m ++ flatM (rs.take i) (F.take i)).length:=by
 unfold memAt
 rw [ZO,ZO,flatM_length (rs.take i) (Za i true) (F.take i) (by simp [hi]) (by simp [hF])]
section
variable {P : Program} {ds : List (Option Tmp)}
theorem Run.len : ∀ {os : List Oper} {st st' : St} {rs : List Res},Run P ds os st rs st' → rs.length = os.length
 | [],st,st',[],h=>rfl
 | [],st,st',_ :: _,h=>h.elim
 | o :: os,st,st',[],h=>h.elim
 | o :: os,st,st',some (r,new) :: rs,h=>by simp [Run.len h.2.2]
 | o :: os,st,st',none :: rs,h=>by simp [Run.len h.2]
theorem runT_none : ∀ (os : List Oper) (rs : List Res) (n : Nat) (t : List V),runT os rs (Za n false) t = t
 | o :: os,r :: rs,n + 1,t=>by simp [Zh,runT,runT_none os rs n t]
 | [],_,_,t=>by simp [runT]
 | _ :: _,[],_,t=>by simp [runT]
 | _ :: _,_ :: _,0,t=>by simp [runT]
theorem Run.fin : ∀ {os : List Oper} {st st' : St} {rs : List Res},Run P ds os st rs st' → st' = ⟨runT os rs (Za os.length true) st.t,st.m ++ flatM rs (Za os.length true),st.g⟩
 | [],st,st',[],h=>by
   have h : st' = st:=h
   simp [h,runT,flatM]
 | [],st,st',_ :: _,h=>h.elim
 | o :: os,st,st',[],h=>h.elim
 | o :: os,st,st',some (r,new) :: rs,h=>by
   rw [Run.fin h.2.2]
   simp [Zh,runT,flatM,valOf,newOf]
 | o :: os,st,st',none :: rs,h=>by
   rw [Run.fin h.2]
   simp [Zh,runT,flatM,valOf,newOf]
theorem Run.at_ : ∀ {os : List Oper} {st st' : St} {rs : List Res} {i : Nat} {o : Oper},Run P ds os st rs st' → os[i]? = some o → ∃ r,rs[i]? = some r ∧
  ((∃ v new,r = some (v,new) ∧ wantT ds o (runT os rs (pre i os.length) st.t) = some true ∧ QS P o (St.ev (runT os rs (pre i os.length) st.t)) (memAt rs st.m i) (memAt rs st.m i).length v new) ∨
    (r = none ∧ wantT ds o (runT os rs (pre i os.length) st.t) = some false))
 | [],st,st',rs,i,o,h,ho=>by simp at ho
 | o :: os,st,st',[],i,o',h,ho=>h.elim
 | o :: os,st,st',some (r,new) :: rs,0,o',h,ho=>by
   simp only [ZK,Option.some.injEq] at ho
   subst ho
   have e1 : runT (o :: os) (some (r,new) :: rs) (pre 0 (o :: os).length) st.t = st.t:=by
    simp only [pre,YA,List.nil_append,Yj]; exact runT_none _ _ _ _
   have e2 : memAt (some (r,new) :: rs) st.m 0 = st.m:=by simp [memAt,flatM]
   rw [e1,e2]
   exact ⟨_,rfl,.inl ⟨r,new,rfl,h.1,h.2.1⟩⟩
 | o :: os,st,st',none :: rs,0,o',h,ho=>by
   simp only [ZK,Option.some.injEq] at ho
   subst ho
   have e1 : runT (o :: os) (none :: rs) (pre 0 (o :: os).length) st.t = st.t:=by
    simp only [pre,YA,List.nil_append,Yj]; exact runT_none _ _ _ _
   rw [e1]
   exact ⟨_,rfl,.inr ⟨rfl,h.1⟩⟩
 | o :: os,st,st',some (r,new) :: rs,i + 1,o',h,ho=>by
   simp only [Ya] at ho
   obtain ⟨r',h1,h2⟩:=Run.at_ h.2.2 ho
   have e1 : runT (o :: os) (some (r,new) :: rs) (pre (i + 1) (o :: os).length) st.t = runT os rs (pre i os.length) (putT st.t o.dst r):=by
    simp [pre,Zh,runT,valOf]
   have e2 : memAt (some (r,new) :: rs) st.m (i + 1) = memAt rs (st.m ++ new) i:=by simp [memAt,Zh,flatM,newOf]
   rw [e1,e2]
   exact ⟨r',by simpa using h1,h2⟩
 | o :: os,st,st',none :: rs,i + 1,o',h,ho=>by
   simp only [Ya] at ho
   obtain ⟨r',h1,h2⟩:=Run.at_ h.2 ho
   have e1 : runT (o :: os) (none :: rs) (pre (i + 1) (o :: os).length) st.t = runT os rs (pre i os.length) (putT st.t o.dst (.tup [])):=by
    simp [pre,Zh,runT,valOf]
   have e2 : memAt (none :: rs) st.m (i + 1) = memAt rs st.m i:=by simp [memAt,Zh,flatM,newOf]
   rw [e1,e2]
   exact ⟨r',by simpa using h1,h2⟩
end
def RS (P : Program) (ds : List (Option Tmp)) : List Oper → St → (St → Prop) → Prop
 | [],st,K=>K st
 | o :: os,st,K=>gv ds o st.t (S1 P o st (fun st'=>RS P ds os st' K)) (RS P ds os ⟨putT st.t o.dst (.tup []),st.m,st.g⟩ K)
def RQ (P : Program) (ds : List (Option Tmp)) : Nat → List Oper → St → (St → Prop) → Prop
 | k + 1,o :: os,st,K=>gv ds o st.t (Q1 P o.op (St.ev st.t) st.m st.m.length (fun r new=>RQ P ds k os ⟨putT st.t o.dst r,st.m ++ new,st.g⟩ K)) (RQ P ds k os ⟨putT st.t o.dst (.tup []),st.m,st.g⟩ K)
 | _,os,st,K=>RS P ds os st K
section
variable {P : Program} {ds : List (Option Tmp)}
theorem gd_of_want {o : Oper} {t : List V} {A B : Prop} (h : (wantT ds o t = some true ∧ A) ∨ (wantT ds o t = some false ∧ B)) : gd ds o t A B:=by
 unfold wantT at h
 unfold gd
 cases hg : o.guard with
 | none=>
  rw [hg] at h; rcases h with ⟨_,h⟩ | ⟨h,_⟩
  ·exact h
  ·cases h
 | some g =>
  obtain ⟨j,want⟩:=g
  rw [hg] at h
  simp only at h ⊢
  cases hd : ds.getD j none with
  | none=>rw [hd] at h; rcases h with ⟨h,_⟩ | ⟨h,_⟩ <;> cases h
  | some d =>
   rw [hd] at h
   simp only at h ⊢
   cases hx : t.getD d .junk <;> rw [hx] at h <;> try simp only [reduceCtorEq,false_and,or_self] at h
   case bool b=>cases b <;> cases want <;> simp_all
   case tup xs =>
    cases xs with
    | cons x xs=>simp at h
    | nil=>simpa using h
theorem RO_of_RS : ∀ {os : List Oper} {st : St} {K : St → Prop},RS P ds os st K → RO P ds os st K
 | [],st,K,h=>h
 | o :: os,st,K,h=>by
   refine gd_of_want ?_
   rcases gv_cases h with ⟨h1,h2⟩ | ⟨h1,h2⟩
   ·exact .inl ⟨h1,(S1_sound h2).mono fun st' k=>RO_of_RS k⟩
   ·exact .inr ⟨h1,RO_of_RS h2⟩
theorem SW.region1 {st : St} {Q : Exit → St → Prop} {id : Nat} {ops : Array Oper} (h : RS P (dsts ops) ops.toList st (Q .normal)) : SW P (.region id ops false) st Q:=SW.region (RO_of_RS h)
theorem RQ_run : ∀ {k : Nat} {os : List Oper} {st : St} {K : St → Prop},RQ P ds k os st K → ∃ rs st',Run P ds (os.take k) st rs st' ∧ RS P ds (os.drop k) st' K
 | 0,os,st,K,h=>⟨[],st,by simp [Run],by cases os <;> simpa [RQ] using h⟩
 | k + 1,[],st,K,h=>⟨[],st,by simp [Run],by simpa [RQ] using h⟩
 | k + 1,o :: os,st,K,h=>by
   rcases gv_cases h with ⟨h1,h2⟩ | ⟨h1,h2⟩
   ·obtain ⟨r,new,h3,h4⟩:=Q1_sound h2
    obtain ⟨rs,st',h5,h6⟩:=RQ_run h4
    exact ⟨some (r,new) :: rs,st',⟨h1,h3,h5⟩,h6⟩
   ·obtain ⟨rs,st',h5,h6⟩:=RQ_run h2
    exact ⟨none :: rs,st',⟨h1,h5⟩,h6⟩
end
end Go.Pm
end
section
namespace Go.Pm
open Go.RowKit
def waits (ops : Array Oper) (i : Nat) : List Nat:=match ops[i]? with
 | some o=>(o.after.toList.filter (Region.binds .any)).map (·.on)
 | none=>[]
inductive Anc (ops : Array Oper) : Nat → Nat → Prop
 | one {i j : Nat} : j ∈ waits ops i → Anc ops i j
 | more {i l j : Nat} : l ∈ waits ops i → Anc ops l j → Anc ops i j
def ancs : List (List Nat) → List (List Nat) → List (List Nat)
 | [],acc=>acc
 | w :: ws,acc=>ancs ws (acc ++ [(ZA acc.length).filter fun j=>w.contains j || w.any fun l=>(acc.getD l []).contains j])
structure Any (ops : Array Oper) (fl : List Nat) (k : Nat) : Prop where
 early : ∀ i,i < ops.size → ∀ j ∈ waits ops i,j < i
 slot : ∀ (i j : Nat) (oi oj : Oper) (s : Tmp),i < k → j < k → i ≠ j → ops[i]? = some oi → ops[j]? = some oj → s ∈ oi.looksAt ops → oj.dst = some s → j ∈ waits ops i ∨ i ∈ waits ops j
 once : ∀ (i j : Nat) (oi oj : Oper) (s : Tmp),i < k → j < k → i ≠ j → ops[i]? = some oi → ops[j]? = some oj → oi.dst = some s → oj.dst ≠ some s
 tail : ∀ i,k ≤ i → i < ops.size → ∀ j,j < i → j ∉ fl → Anc ops i j
 le : k ≤ ops.size
 flt : ∀ f ∈ fl,f < k
def anyF (ops : Array Oper) (fl : List Nat) (k : Nat) : Bool :=
 let l:=ops.toList
 let ws:=l.map fun o=>(o.after.toList.filter (Region.binds .any)).map (·.on)
 let ds:=l.map (·.dst)
 let ls:=l.map fun o=>o.looksAt ops
 let as:=ancs ws []
 k ≤ l.length && (fl.all fun f=>Ye f k) &&
 (ZA l.length).all fun i =>
  ((ws.getD i []).all fun j=>Ye j i) &&
  if Ye i k then
   (ZA k).all fun j=>ZB i j ||
    (match ds.getD j none with
     | none=>true
     | some s=>(match ds.getD i none with
       | some s'=>!ZB s s'
       | none=>true) && (!(ls.getD i []).contains s || (ws.getD i []).contains j || (ws.getD j []).contains i))
  else (ZA i).all fun j=>fl.contains j || (as.getD i []).contains j
def anyB (ops : Array Oper) (k : Nat) : Bool:=anyF ops [] k
theorem blt_iff {i j : Nat} : Ye i j = true ↔ i < j:=by rw [Nat.blt_eq]
theorem ancs_sound {ops : Array Oper} : ∀ (ws acc : List (List Nat)),(∀ i,ws.getD i [] = waits ops (acc.length + i) ∨ ws.length ≤ i) → (∀ i,∀ j ∈ acc.getD i [],Anc ops i j) → ∀ i,∀ j ∈ (ancs ws acc).getD i [],Anc ops i j
 | [],acc,_,h=>h
 | w :: ws,acc,hw,h=>by
   refine ancs_sound ws _ (fun i=>?_) (fun i j hj=>?_)
   ·have:=hw (i + 1)
    simp only [List.getD_cons_succ,ZT,Nat.add_le_add_iff_right] at this
    rw [ZO,YL,show acc.length + 1 + i = acc.length + (i + 1) by omega]
    exact this
   ·rw [Zm] at hj
    rcases Nat.lt_trichotomy i acc.length with hi | hi | hi
    ·rw [Ze hi] at hj
     exact h i j (by rw [Zm]; exact hj)
    ·subst hi
     rw [Zd (Zk _)] at hj
     simp only [Yu,ZK,Yz,List.mem_filter,ZJ,Yf,Yt] at hj
     have hw0 : w = waits ops acc.length:=by
      have:=hw 0
      simp only [List.getD_cons_zero,ZT,ZH] at this
      rcases this with this | this
      ·exact this
      ·omega
     rw [hw0] at hj
     rcases hj.2 with h1 | ⟨l,h1,h2⟩
     ·exact .one h1
     ·exact .more h1 (h l j h2)
    ·rw [ZL (by simp; omega)] at hj
     simp at hj
theorem Any.of {ops : Array Oper} {fl : List Nat} {k : Nat} (h : anyF ops fl k = true) : Any ops fl k:=by
 have hws : ∀ i,(ops.toList.map fun o=>(o.after.toList.filter (Region.binds .any)).map (·.on)).getD i [] = waits ops i:=by
  intro i
  unfold waits
  rw [Zm,Zf,Zs]
  cases ops[i]? <;> rfl
 have hds : ∀ (i : Nat) (o : Oper),ops[i]? = some o → (ops.toList.map (·.dst)).getD i none = o.dst:=by
  intro i o ho
  rw [Zm,Zf,Zs,ho]
  rfl
 have hls : ∀ (i : Nat) (o : Oper),ops[i]? = some o → (ops.toList.map (fun o=>o.looksAt ops)).getD i [] = o.looksAt ops:=by
  intro i o ho
  rw [Zm,Zf,Zs,ho]
  rfl
 unfold anyF at h
 simp only [Zu,decide_eq_true_eq,Zq,ZU,Array.length_toList,hws] at h
 obtain ⟨⟨hk,hfl⟩,h⟩:=h
 have lt_of : ∀ (i : Nat) (o : Oper),ops[i]? = some o → i < ops.size:=fun i o ho=>(Zr.1 ho).1
 have key : ∀ (i j : Nat) (oi oj : Oper) (s : Tmp),i < k → j < k → i ≠ j → ops[i]? = some oi → ops[j]? = some oj → oj.dst = some s →
   (∀ s',oi.dst = some s' → s ≠ s') ∧ (s ∈ oi.looksAt ops → j ∈ waits ops i ∨ i ∈ waits ops j):=by
  intro i j oi oj s hi hj hne hoi hoj hd
  have h1:=(h i (lt_of i oi hoi)).2
  rw [if_pos (blt_iff.2 hi)] at h1
  have h2:=Zq.1 h1 j (ZU.2 hj)
  rw [hds j oj hoj,hd,hds i oi hoi,hls i oi hoi] at h2
  have hb : ZB i j = false:=by
   cases hb : ZB i j
   ·rfl
   ·exact absurd (ZV hb) hne
  rw [hb,Bool.false_or] at h2
  simp only [Zu,ZJ,Yc,Yf] at h2
  refine ⟨fun s' hs' hss=>?_,fun hm=>?_⟩
  ·rw [hs'] at h2
   simp only [Yc] at h2
   subst hss
   have:=h2.1
   simp at this
  ·rcases h2.2 with (h3 | h3) | h3
   ·have : (oi.looksAt ops).contains s = true:=Yf.2 hm
    rw [this] at h3
    cases h3
   ·exact .inl h3
   ·exact .inr h3
 refine ⟨?_,?_,?_,?_,hk,fun f hf=>blt_iff.1 (hfl f hf)⟩
 ·intro i hi j hj
  exact blt_iff.1 ((h i hi).1 j hj)
 ·intro i j oi oj s hi hj hne hoi hoj hm hd
  exact (key i j oi oj s hi hj hne hoi hoj hd).2 hm
 ·intro i j oi oj s hi hj hne hoi hoj hd hd'
  exact (key i j oi oj s hi hj hne hoi hoj hd').1 s hd rfl
 ·intro i hki hi j hj hjf
  have h1:=(h i hi).2
  rw [if_neg (fun q=>by have:=blt_iff.1 q; omega)] at h1
  have h2:=Zq.1 h1 j (ZU.2 hj)
  simp only [ZJ,Yf] at h2
  refine ancs_sound (ops:=ops) _ [] (fun i=>.inl ?_) (fun i j hj=>by simp at hj) i j (h2.resolve_left hjf)
  rw [hws]; simp
theorem Anc.lt {ops : Array Oper} (he : ∀ i,i < ops.size → ∀ j ∈ waits ops i,j < i) {i j : Nat} (h : Anc ops i j) : i < ops.size → j < i:=by
 induction h with
 | one h=>exact fun hi=>he _ hi _ h
 | more h _ ih=>exact fun hi=>by have:=he _ hi _ h; have:=ih (by omega); omega
theorem waits_spec {ops : Array Oper} {i j : Nat} {o : Oper} (ho : ops[i]? = some o) : j ∈ waits ops i ↔ ∃ e ∈ o.after,Region.binds .any e = true ∧ e.on = j:=by
 unfold waits
 rw [ho]
 simp [Zt,List.mem_filter,and_assoc]
theorem ready_waits {ops : Array Oper} {listed : Array Bool} {i : Nat} (h : i ∈ Region.ready .any ops listed) : listed.getD i true = false ∧ i < ops.size ∧ ∀ j ∈ waits ops i,listed.getD j false = true:=by
 obtain ⟨h1,o,ho,h2⟩:=mem_ready.1 h
 refine ⟨h1,(Zr.1 ho).1,fun j hj=>?_⟩
 obtain ⟨e,he,hb,rfl⟩:=(waits_spec ho).1 hj
 exact h2 e he hb
theorem ready_some {ops : Array Oper} {listed : Array Bool} (hs : listed.size = ops.size) (he : ∀ i,i < ops.size → ∀ j ∈ waits ops i,j < i) (h : Region.ready .any ops listed = []) : ∀ i,i < ops.size → listed[i]? = some true:=by
 intro i
 induction i using Nat.strongRecOn with
 | ind i ih =>
  intro hi
  rcases hb : listed[i]? with _ | b
  ·rw [Yg] at hb; omega
  ·cases b
   ·exfalso
    have : i ∈ Region.ready .any ops listed:=by
     refine mem_ready.2 ⟨by rw [Zb,hb]; rfl,ops[i],Zp hi,fun e hee hbb=>?_⟩
     have hw : e.on ∈ waits ops i:=(waits_spec (Zp hi)).2 ⟨e,hee,hbb,rfl⟩
     have hlt:=he i hi _ hw
     rw [Zb,ih _ hlt (by omega)]
     rfl
    rw [h] at this
    cases this
   ·rfl
section
variable {P : Program} {ops : Array Oper} {K : St → Prop} {w0 : World} {E Zo : Nat → Prop} {gh : List Value} {Q : Exit → Act → World → Prop}
def flags (n i : Nat) : Array Bool:=((ZA n).map fun j=>decide (j < i)).toArray
theorem flags_get (n i j : Nat) (h : j < n) : (flags n i)[j]? = some (decide (j < i)):=by
 simp [flags,h]
theorem flags_next {n i : Nat} (hi : i < n) : (flags n i).setIfInBounds i true = flags n (i + 1):=by
 apply YM
 intro j
 rw [ZF]
 by_cases hj : j < n
 ·rw [flags_get n _ j hj,flags_get n _ j hj]
  by_cases e : i = j
  ·subst e; simp [flags,hi]
  ·simp only [e,if_false]
   congr 1
   rw [decide_eq_decide]
   omega
 ·have h1 : (flags n i)[j]? = none:=by rw [Yg]; simp [flags]; omega
  have h2 : (flags n (i + 1))[j]? = none:=by rw [Yg]; simp [flags]; omega
  rw [h1,h2,if_neg (by omega)]
theorem tail_sound {fl : List Nat} {k : Nat} (A : Any ops fl k) (hQ : ∀ st a w,K st → Rel w0 E Zo gh st a w → Q .normal a w) :
  ∀ (fuel i : Nat) (st : St) (a : Act) (w : World),k ≤ i → i ≤ ops.size → ops.size ≤ i + fuel → RS P (dsts ops) (ops.toList.drop i) st K → Rel w0 E Zo gh st a w → wpAny P .any ops Q fuel (flags ops.size i) a w:=by
 intro fuel
 induction fuel with
 | zero =>
  intro i st a w hk hi hf h r
  have : i = ops.size:=by omega
  subst this
  have hd : ops.toList.drop ops.size = []:=by simp
  rw [hd] at h
  have hr : Region.ready .any ops (flags ops.size ops.size) = []:=by
   rcases hl : Region.ready .any ops (flags ops.size ops.size) with _ | ⟨j,js⟩
   ·rfl
   ·exfalso
    have hj : j ∈ Region.ready .any ops (flags ops.size ops.size):=by rw [hl]; exact Zx
    obtain ⟨h1,h2,_⟩:=ready_waits hj
    rw [Zb,flags_get _ _ _ h2] at h1
    simp [h2] at h1
  exact ⟨hr,hQ st a w h r⟩
 | succ fuel ih =>
  intro i st a w hk hi hf h r
  by_cases hend : i = ops.size
  ·subst hend
   have hd : ops.toList.drop ops.size = []:=by simp
   rw [hd] at h
   have hr : Region.ready .any ops (flags ops.size ops.size) = []:=by
    rcases hl : Region.ready .any ops (flags ops.size ops.size) with _ | ⟨j,js⟩
    ·rfl
    ·exfalso
     have hj : j ∈ Region.ready .any ops (flags ops.size ops.size):=by rw [hl]; exact Zx
     obtain ⟨h1,h2,_⟩:=ready_waits hj
     rw [Zb,flags_get _ _ _ h2] at h1
     simp [h2] at h1
   exact ⟨fun _=>hQ st a w h r,by rw [hr]; simp⟩
  ·have hlt : i < ops.size:=by omega
   refine ⟨fun hr=>?_,fun j hj=>?_⟩
   ·exfalso
    have:=ready_some (by simp [flags]) A.early hr i hlt
    rw [flags_get _ _ _ hlt] at this
    simp at this
   ·obtain ⟨h1,h2,h3⟩:=ready_waits hj
    rw [Zb,flags_get _ _ _ h2] at h1
    have h1 : i ≤ j:=by simpa using h1
    have hji : j = i:=by
     by_cases hne : j = i
     ·exact hne
     ·exfalso
      have hlst : ∀ l ∈ waits ops j,l < i:=by
       intro l hl
       have hlj:=A.early j h2 l hl
       have:=h3 l hl
       rw [Zb,flags_get _ _ _ (by omega)] at this
       simpa using this
      cases A.tail j (by omega) h2 i (by omega) (fun hf=>by have:=A.flt i hf; omega) with
      | one h=>have:=hlst i h; omega
      | more h k =>
       have h4:=hlst _ h
       have:=k.lt A.early (by omega)
       omega
    subst hji
    rw [flags_next hlt]
    have ho : ops[j]? = some ops[j]:=Zp hlt
    have hd : ops.toList.drop j = ops[j] :: ops.toList.drop (j + 1):=by
     rw [YN (by simpa using hlt)]
     simp
    rw [hd] at h
    unfold wpOp
    rw [ho]
    simp only
    obtain ⟨β,M,g1,g2,g3,g4,g5⟩:=r
    rcases gv_cases h with ⟨hw,hA⟩ | ⟨hw,hB⟩
    ·have hw':=wantT_sound (x:=.junk) (a:=a) hw (fun _ _ d _ _=>by
      have h1:=g4.getD d undef
      have h2 : a.tmps.toList.getD d undef = a.tmps.getD d undef:=by simp
      rwa [h2] at h1)
     rw [if_pos hw']
     refine .inl (Oper.wp_mono ?_ (S1_sound hA w0 E Zo gh a w Q ⟨β,M,g1,g2,g3,g4,g5⟩))
     rintro a' w' ⟨st',hk',hr'⟩
     exact ih (j + 1) st' a' w' (by omega) (by omega) (by omega) hk' hr'
    ·have hw':=wantT_sound (x:=.junk) (a:=a) hw (fun _ _ d _ _=>by
      have h1:=g4.getD d undef
      have h2 : a.tmps.toList.getD d undef = a.tmps.getD d undef:=by simp
      rwa [h2] at h1)
     rw [if_neg (by rw [hw']; decide)]
     exact ih (j + 1) _ _ w (by omega) (by omega) (by omega) hB ⟨β,M,g1,g2,by cases (ops[j]).dst <;> exact g3,g4.put (x:=.tup []) RV_udf (ops[j]).dst,g5⟩
def Part (ops : Array Oper) (k : Nat) (st : St) (rs : List Res) (w0 : World) (E Zo : Nat → Prop) (gh : List Value) (F : List Bool) (a : Act) (w : World) : Prop :=
 Rel w0 E Zo gh ⟨runT (ops.toList.take k) rs F st.t,st.m ++ flatM rs F,st.g⟩ a w
def lay0 (n : Nat) (F : List Bool) : Array Bool:=(F ++ Za (n - F.length) false).toArray
theorem lay0_set {n i : Nat} {F : List Bool} (h : i < F.length) : (lay0 n F).setIfInBounds i true = lay0 n (F.set i true):=by
 unfold lay0
 simp [List.setIfInBounds_toArray,List.set_append_left _ _ h]
theorem lay0_get {n i : Nat} {F : List Bool} (h : i < F.length) : (lay0 n F)[i]? = F[i]?:=by
 unfold lay0
 simp [Ze h]
theorem lay0_get' {n i : Nat} {F : List Bool} (h : F.length ≤ i) (hn : i < n) : (lay0 n F)[i]? = some false:=by
 unfold lay0
 simp only [YC]
 rw [Zd h,Zw,if_pos (by omega)]
theorem lay0_all {n k : Nat} (h : k ≤ n) : lay0 n (Za k true) = flags n k:=by
 apply YM
 intro j
 by_cases hj : j < n
 ·rw [flags_get n k j hj]
  by_cases hk : j < k
  ·rw [lay0_get (by simpa using hk),Zw,if_pos hk]
   simp [hk]
  ·rw [lay0_get' (by simp; omega) hj]
   simp [hk]
 ·have h1 : (lay0 n (Za k true))[j]? = none:=by rw [Yg]; simp [lay0]; omega
  have h2 : (flags n k)[j]? = none:=by rw [Yg]; simp [flags]; omega
  rw [h1,h2]
theorem all_true : ∀ {F : List Bool},(∀ j,j < F.length → F[j]? = some true) → F = Za F.length true
 | [],_=>rfl
 | b :: F,h=>by
   have h0 : b = true:=by simpa using h 0 (by simp)
   subst h0
   have:=all_true (F:=F) (fun j hj=>by simpa using h (j + 1) (by simpa using hj))
   simp only [ZT,Zh]
   rw [← this]
def left : List Bool → Nat
 | []=>0
 | b :: F=>(if b then 0 else 1) + left F
theorem left_set : ∀ {F : List Bool} {i : Nat},F[i]? = some false → left (F.set i true) + 1 = left F
 | b :: F,0,h=>by
   have h : b = false:=by simpa using h
   subst h
   simp [left]; omega
 | b :: F,i + 1,h=>by
   have:=left_set (F:=F) (i:=i) (by simpa using h)
   simp only [YK,left]
   omega
 | [],_,h=>by simp at h
theorem left_zero : ∀ {F : List Bool},left F = 0 → F = Za F.length true
 | [],_=>rfl
 | b :: F,h=>by
   cases b
   ·simp [left] at h
   ·simp only [left,if_true,Zl] at h
    simp only [ZT,Zh]
    rw [← left_zero h]
theorem left_rep : ∀ n : Nat,left (Za n true) = 0
 | 0=>rfl
 | n + 1=>by simp [Zh,left,left_rep n]
theorem head_step {fl : List Nat} {k : Nat} {st st' : St} {rs : List Res} (A : Any ops fl k) (hrun : Run P (dsts ops) (ops.toList.take k) st rs st') {F : List Bool} {a : Act} {w : World} (hF : F.length = k)
  (hc : ∀ i,F[i]? = some true → ∀ j ∈ waits ops i,F[j]? = some true) (r : Part ops k st rs w0 E Zo gh F a w) {i : Nat} (hik : i < k) (h2 : i < ops.size) (hiF : F[i]? = some false) (h3' : ∀ j ∈ waits ops i,F[j]? = some true)
  {K' : Act → World → Prop} (hnext : ∀ (a' : Act) (w' : World),Part ops k st rs w0 E Zo gh (F.set i true) a' w' → K' a' w') :
  (Region.wanted ops[i] (yielded ops a.tmps) = true ∧ (ops[i]).wp P a w K' Q) ∨ (Region.wanted ops[i] (yielded ops a.tmps) = false ∧ K' (a.put (ops[i]).dst undef) w):=by
 have hlenk : (ops.toList.take k).length = k:=by simp [A.le]
 have hrl : rs.length = k:=by rw [hrun.len,hlenk]
 have ho : ops[i]? = some ops[i]:=Zp h2
 have hoT : (ops.toList.take k)[i]? = some ops[i]:=by
  rw [YO hik,Zs,ho]
 have hoT' : ∀ (j : Nat) (o : Oper),(ops.toList.take k)[j]? = some o → j < k ∧ ops[j]? = some o:=by
  intro j o hj
  have hjk : j < k:=by have:=(Zc.1 hj).1; omega
  rw [YO hjk,Zs] at hj
  exact ⟨hjk,hj⟩
 obtain ⟨r0,hr0,hcase⟩:=hrun.at_ hoT
 have hslot : ∀ s,s ∈ (ops[i]).looksAt ops → (runT (ops.toList.take k) rs (pre i (ops.toList.take k).length) st.t).getD s .junk = (runT (ops.toList.take k) rs F st.t).getD s .junk:=by
  intro s hs
  refine runT_agree s _ _ _ _ _ _ (by rw [hlenk,hF]; simp [pre]; omega) rfl (fun j o' hj hd=>?_) rfl
  obtain ⟨hjk,hoj⟩:=hoT' j o' hj
  rw [hlenk]
  have hpre : (pre i k)[j]? = some (decide (j < i)):=by
   unfold pre
   by_cases hji : j < i
   ·rw [Ze (by simpa using hji),Zw,if_pos hji]; simp [hji]
   ·rw [Zd (by simp; omega),Zw,if_pos (by simp; omega)]; simp [hji]
  rw [hpre]
  by_cases e : j = i
  ·subst e
   rw [hiF]; simp
  ·rcases A.slot i j ops[i] o' s hik hjk (fun q=>e q.symm) ho hoj hs hd with hw | hw
   ·rw [h3' j hw]
    have:=A.early i h2 j hw
    simp [this]
   ·have hlt:=A.early j (by have:=A.le; omega) i hw
    have hjF : F[j]? = some false:=by
     have hjl : j < F.length:=by omega
     cases hb : F[j] with
     | false=>rw [Zy hjl,hb]
     | true =>
      exfalso
      have:=hc j (by rw [Zy hjl,hb]) i hw
      rw [hiF] at this
      cases this
    rw [hjF]
    have : ¬ j < i:=by omega
    simp [this]
 obtain ⟨β,M,g1,g2,g3,g4,g5⟩:=r
 have hgd : ∀ d,RV (cx w Zo (st.m ++ flatM rs F) β) ((runT (ops.toList.take k) rs F st.t).getD d .junk) (a.tmps.getD d undef):=by
  intro d
  have h1:=g4.getD d undef
  have h2 : a.tmps.toList.getD d undef = a.tmps.getD d undef:=by simp
  rwa [h2] at h1
 have hwant : ∀ b,wantT (dsts ops) ops[i] (runT (ops.toList.take k) rs (pre i (ops.toList.take k).length) st.t) = some b → Region.wanted ops[i] (yielded ops a.tmps) = b:=by
  intro b hb
  refine wantT_sound (x:=.junk) hb (fun j want d hg hd=>?_) (c:=cx w Zo (st.m ++ flatM rs F) β)
  have hs : d ∈ (ops[i]).looksAt ops:=by
   unfold Oper.looksAt
   rw [hg]
   simp [hd]
  rw [hslot d hs]
  exact hgd d
 have honce : ∀ (j : Nat) (o' : Oper),(ops.toList.take k)[j]? = some o' → j ≠ i → ∀ s,(ops[i]).dst = some s → o'.dst ≠ some s:=by
  intro j o' hj hne s hs
  obtain ⟨hjk,hoj⟩:=hoT' j o' hj
  exact A.once i j _ _ s hik hjk (fun q=>hne q.symm) ho hoj hs
 have hT:=runT_list _ rs F st.t i ops[i] r0 hoT hr0 hiF honce
 have hM:=flatM_at (by rw [hF,hrl]) hr0 hiF
 have hM':=flatM_at (F:=F.set i true) (b:=true) (by simp [hF,hrl]) hr0 (by rw [Zi (by omega)])
 simp only [ZZ,if_false] at hM
 simp only [if_true] at hM'
 have ht1 : (F.set i true).take i = F.take i:=by rw [List.take_set_of_le (Zk _)]
 have ht2 : (F.set i true).drop (i + 1) = F.drop (i + 1):=by rw [List.drop_set_of_lt (by omega)]
 rw [ht1,ht2] at hM'
 rcases hcase with ⟨v,new,rfl,hw,hqs⟩ | ⟨rfl,hw⟩
 ·refine .inl ⟨hwant _ hw,?_⟩
  have hbase : (memAt rs st.m i).length = (st.m ++ flatM (rs.take i) (F.take i)).length:=memAt_length (by rw [hF,hrl]) (by omega)
  have hmm : st.m ++ flatM rs F = (st.m ++ flatM (rs.take i) (F.take i)) ++ Za new.length .hole ++ flatM (rs.drop (i + 1)) (F.drop (i + 1)):=by
   rw [hM]; simp [newOf]
  have hmm' : st.m ++ flatM rs (F.set i true) = (st.m ++ flatM (rs.take i) (F.take i)) ++ new ++ flatM (rs.drop (i + 1)) (F.drop (i + 1)):=by
   rw [hM']; simp [newOf]
  have hfill : fills (st.m ++ flatM rs F) (memAt rs st.m i).length new = st.m ++ flatM rs (F.set i true):=by
   rw [hmm,hmm',hbase]
   exact fills_mid _ _ _
  refine Oper.wp_mono ?_ (hqs w Zo _ β a Q M (memAt_agree (by rw [hF,hrl]) (by omega)) (fun x hx=>?_) (fun j hj=>?_))
  ·rintro a' w' ⟨u,β',rfl,hG,M',hle,hv,hlv⟩
   rw [hfill] at M' hle hv hlv
   refine hnext _ w' ?_
   unfold Part
   rw [hT]
   refine ⟨β',M',?_,g2.trans (hG.mono (fun _ q=>q.elim)),by cases (ops[i]).dst <;> exact g3,(g4.mono hle).put hv (ops[i]).dst,g5.mono hle⟩
   intro b hb
   rcases hlv b hb with hb | hb
   ·exact g1 b hb
   ·exact .inr (Yo g2.size hb)
  ·cases x with
   | tmp s =>
    have hs : s ∈ (ops[i]).looksAt ops:=by
     unfold Oper.looksAt
     refine List.mem_append_left _ (List.mem_filterMap.2 ⟨.tmp s,by simpa using hx,rfl⟩)
    show RV _ ((runT (ops.toList.take k) rs (pre i (ops.toList.take k).length) st.t).getD s .junk) _
    rw [hslot s hs]
    exact hgd s
   | const c=>exact ev_RV (t:=[]) (c:=cx w Zo (st.m ++ flatM rs F) β) (a:={ tmps:=#[],defers:=[] }) rfl (.const c)
   | global g=>trivial
   | func f=>exact ⟨#[],#[],rfl,rfl,rfl⟩
  ·rw [hbase,hmm,Yr,Zd (by omega),Ze (by simp; omega),Zw,if_pos (by omega)]
 ·refine .inr ⟨hwant _ hw,hnext _ w ?_⟩
  unfold Part
  rw [hT]
  have hmm : st.m ++ flatM rs (F.set i true) = st.m ++ flatM rs F:=by rw [hM,hM']; simp [newOf]
  rw [hmm]
  exact ⟨β,M,g1,g2,by cases (ops[i]).dst <;> exact g3,g4.put (x:=.tup []) RV_udf (ops[i]).dst,g5⟩
theorem head_sound {k : Nat} {st st' : St} {rs : List Res} {fl : List Nat} (A : Any ops fl k) (hQ : ∀ st a w,K st → Rel w0 E Zo gh st a w → Q .normal a w)
  (hrun : Run P (dsts ops) (ops.toList.take k) st rs st') (htail : RS P (dsts ops) (ops.toList.drop k) st' K) :
  ∀ (fuel : Nat) (F : List Bool) (a : Act) (w : World),F.length = k → left F + (ops.size - k) ≤ fuel → (∀ i,F[i]? = some true → ∀ j ∈ waits ops i,F[j]? = some true) → (∀ f ∈ fl,F[f]? = some true) →
   Part ops k st rs w0 E Zo gh F a w → wpAny P .any ops Q fuel (lay0 ops.size F) a w:=by
 have hlenk : (ops.toList.take k).length = k:=by simp [A.le]
 have hrl : rs.length = k:=by rw [hrun.len,hlenk]
 intro fuel
 induction fuel with
 | zero =>
  intro F a w hF hl hc hfl r
  have h0 : left F = 0:=by omega
  have hall:=left_zero h0
  rw [hF] at hall
  subst hall
  rw [lay0_all A.le]
  refine tail_sound A hQ 0 k st' a w (Zk _) A.le (by omega) htail ?_
  rw [hrun.fin,hlenk]
  exact r
 | succ fuel ih =>
  intro F a w hF hl hc hfl r
  by_cases h0 : left F = 0
  ·have hall:=left_zero h0
   rw [hF] at hall
   subst hall
   rw [lay0_all A.le]
   refine tail_sound A hQ (fuel + 1) k st' a w (Zk _) A.le (by omega) htail ?_
   rw [hrun.fin,hlenk]
   exact r
  ·refine ⟨fun hr=>?_,fun i hi=>?_⟩
   ·exfalso
    refine h0 ?_
    have hsz : (lay0 ops.size F).size = ops.size:=by have:=A.le; simp [lay0]; omega
    have:=ready_some hsz A.early hr
    have hF' : F = Za F.length true:=all_true fun j hj=>by rw [← lay0_get hj]; exact this j (by have:=A.le; omega)
    rw [hF']
    exact left_rep _
   ·obtain ⟨h1,h2,h3⟩:=ready_waits hi
    have hik : i < k:=by
     by_cases hik : i < k
     ·exact hik
     ·exfalso
      refine h0 ?_
      have hw3 : ∀ l ∈ waits ops i,F[l]? = some true:=by
       intro l hl2
       have:=h3 l hl2
       by_cases hlk : l < F.length
       ·rw [Zb,lay0_get hlk] at this
        cases hb : F[l]? with
        | none=>rw [hb] at this; cases this
        | some b=>rw [hb] at this; simpa using this
       ·exfalso
        rw [Zb] at this
        unfold lay0 at this
        rw [YC,Zd (by omega),Zw] at this
        split at this <;> simp at this
      have hanc0 : ∀ {a b : Nat},Anc ops a b → (∀ l ∈ waits ops a,F[l]? = some true) → F[b]? = some true:=by
       intro a b h
       induction h with
       | one h=>exact fun hw=>hw _ h
       | more h _ ih=>exact fun hw=>ih (hc _ (hw _ h))
      have hF' : F = Za F.length true:=all_true fun j hj=>by
       by_cases hjf : j ∈ fl
       ·exact hfl j hjf
       ·exact hanc0 (A.tail i (by omega) h2 j (by omega) hjf) hw3
      rw [hF']
      exact left_rep _
    have hiF : F[i]? = some false:=by
     rw [Zb,lay0_get (by omega)] at h1
     have hlt : i < F.length:=by omega
     rw [Zy hlt] at h1 ⊢
     simpa using h1
    have h3' : ∀ j ∈ waits ops i,F[j]? = some true:=by
     intro j hj
     have hj2:=A.early i h2 j hj
     have:=h3 j hj
     rw [Zb,lay0_get (by omega)] at this
     cases hb : F[j]? with
     | none=>rw [hb] at this; cases this
     | some b=>rw [hb] at this; simpa using this
    rw [lay0_set (by omega)]
    have hnext : ∀ (a' : Act) (w' : World),Part ops k st rs w0 E Zo gh (F.set i true) a' w' → wpAny P .any ops Q fuel (lay0 ops.size (F.set i true)) a' w':=by
     intro a' w' hp
     refine ih (F.set i true) a' w' (by simpa using hF) (by have:=left_set hiF; omega) ?_ (fun f hf=>?_) hp
     rotate_left
     ·by_cases e : f = i
      ·subst e; rw [Zi (by omega)]
      ·rw [Zj (fun q=>e q.symm)]; exact hfl f hf
     intro j hj l hl
     by_cases e : j = i
     ·subst e
      have hlj:=A.early j h2 l hl
      rw [Zj (by omega)]
      exact h3' l hl
     ·rw [Zj (fun q=>e q.symm)] at hj
      have:=hc j hj l hl
      by_cases e2 : l = i
      ·subst e2
       rw [Zi (by omega)]
      ·rw [Zj (fun q=>e2 q.symm)]
       exact this
    rcases head_step (Q:=Q) A hrun hF hc r hik h2 hiF h3' hnext with ⟨hw,h⟩ | ⟨hw,h⟩
    ·unfold wpOp
     rw [Zp h2]
     simp only
     rw [if_pos hw]
     exact .inl h
    ·unfold wpOp
     rw [Zp h2]
     simp only
     rw [if_neg (by rw [hw]; decide)]
     exact h
theorem SW.drawn {st : St} {Q : Exit → St → Prop} {id : Nat} (k : Nat) (hm : P.follows .mixedOrders = true) (hk : anyB ops k = true) (h : RQ P (dsts ops) k ops.toList st (Q .normal)) : SW P (.region id ops true) st Q:=by
 intro w0 E Zo gh a w r
 have A:=Any.of hk
 obtain ⟨rs,st',hrun,htail⟩:=RQ_run h
 refine wp_region_any hm ?_
 have hlenk : (ops.toList.take k).length = k:=by simp [A.le]
 have hrl : rs.length = k:=by rw [hrun.len,hlenk]
 have h0 : YD ops.size false = lay0 ops.size (Za k false):=by
  have:=A.le
  unfold lay0
  rw [Ys,ZM,show k + (ops.size - k) = ops.size by omega]
  simp
 rw [h0]
 refine head_sound (K:=Q .normal) (w0:=w0) (E:=E) (Zo:=Zo) (gh:=gh) A (fun st a w hq hr=>⟨st,hq,hr⟩) hrun htail ops.size _ a _ (by simp) ?_ (fun i hi=>?_) (fun f hf=>by cases hf) ?_
 ·have h1 : ∀ n,left (Za n false) = n:=by
   intro n
   induction n with
   | zero=>rfl
   | succ n ih=>simp [Zh,left,ih]; omega
  have:=A.le
  rw [h1]; omega
 ·rw [Zw] at hi
  split at hi <;> cases hi
 ·unfold Part
  rw [runT_none]
  have hf : ∀ (l : List Res),∃ n,flatM l (Za l.length false) = Za n .hole:=by
   intro l
   induction l with
   | nil=>exact ⟨0,rfl⟩
   | cons x xs ih =>
    obtain ⟨n,hn⟩:=ih
    refine ⟨(newOf x).length + n,?_⟩
    simp [Zh,flatM,hn,← ZM]
  obtain ⟨n,hn⟩:=hf rs
  rw [hrl] at hn
  rw [hn]
  obtain ⟨β,M,g1,g2,g3,g4,g5⟩:=r
  have hG : Grow w { w with drawn:=w.drawn + 1 }:=Grow.drew w
  obtain ⟨M1,hle⟩:=(M.grow hG).holes n
  refine ⟨_,M1,?_,g2.trans (hG.mono (fun _ q=>q.elim)),g3,g4.mono ((cx_le_grow hG).trans hle),g5.mono ((cx_le_grow hG).trans hle)⟩
  rintro b ⟨p,q,l,h1,h2,h3⟩
  rcases getElem?_append_holes h1 with h1 | ⟨_,rfl⟩
  ·rw [Ze (by rw [M.len]; exact (Zc.1 h1).1)] at h2
   exact g1 b ⟨p,q,l,h1,h2,h3⟩
  ·simp [Ob.blk] at h3
def fltB (ops : Array Oper) : List Nat → Bool
 | []=>true
 | f :: fs=>!(fs.contains f) && fltB ops fs && (match ops[f]? with
   | some o=>(match o.op with
     | .move _=>true
     | _=>false) && o.guard.isNone && o.after.isEmpty && ((ZA ops.size).all fun j=>ZB j f || (match ops[j]? with
       | some oj=>(oj.after.toList.any fun e=>Region.binds .any e && ZB e.on f) || o.apart ops oj
       | none=>true))
   | none=>false)
def noSel (ops : Array Oper) : Bool:=ops.toList.all fun o=>match o.op with
 | .select _ _=>false
 | _=>true
theorem noSel_out {ops : Array Oper} (h : noSel ops = true) {j : Nat} {o : Oper} (ho : ops[j]? = some o) (cs : Array SelectCase) (b : Bool) : o.op ≠ .select cs b:=by
 intro e
 have:=Zq.1 h o (Yh.2 (Array.mem_of_getElem? ho))
 rw [e] at this
 cases this
end
end Go.Pm
end
section
namespace Go.Pm
open Go.RowKit
def fltG (ops : Array Oper) : List Nat → List Nat → Bool
 | _,[]=>true
 | done,f :: fs=>!(fs.contains f) && fltG ops (f :: done) fs && (match ops[f]? with
   | some o=>(match o.op with
     | .move _=>true
     | .binOp .add _ _ _ _=>true
     | .binOp .sub _ _ _ _=>true
     | _=>false) && o.guard.isNone && (o.after.toList.all fun e=>!Region.binds .any e || done.contains e.on) && ((ZA ops.size).all fun j=>ZB j f || done.contains j || (match ops[j]? with
       | some oj=>(oj.after.toList.any fun e=>Region.binds .any e && ZB e.on f) || o.apart ops oj
       | none=>true))
   | none=>false)
def fltV (ops : Array Oper) : List Nat → List V → Bool
 | [],_=>true
 | f :: fs,t=>match ops[f]? with
   | some o=>(match o.op with
     | .move x=>fltV ops fs (putT t o.dst (St.ev t x))
     | .binOp .add _ x y _=>(match St.ev t x,St.ev t y with
       | .int k a,.int k' b=>decide (k = k') && fltV ops fs (putT t o.dst (.int k (k.wrap (a + b))))
       | _,_=>false)
     | .binOp .sub _ x y _=>(match St.ev t x,St.ev t y with
       | .int k a,.int k' b=>decide (k = k') && fltV ops fs (putT t o.dst (.int k (k.wrap (a - b))))
       | _,_=>false)
     | _=>false)
   | none=>false
section
variable {P : Program} {ops : Array Oper} {K : St → Prop} {w0 : World} {E Zo : Nat → Prop} {gh : List Value} {Q : Exit → Act → World → Prop}
theorem flt_soundG {fl : List Nat} {k : Nat} {st st' : St} {rs : List Res} (A : Any ops fl k) (hQ : ∀ st a w,K st → Rel w0 E Zo gh st a w → Q .normal a w) (hns : noSel ops = true) (hP : ∀ c a w,¬ Q (.panic c) a w)
  (hrun : Run P (dsts ops) (ops.toList.take k) st rs st') (htail : RS P (dsts ops) (ops.toList.drop k) st' K) :
  ∀ (todo done : List Nat) (fuel : Nat) (F : List Bool) (a : Act) (w : World) (t : List V) (c : Cx),fltG ops done todo = true → fltV ops todo t = true → RVs c t a.tmps.toList → (∀ g ∈ done,F[g]? = some true) → (∀ g ∈ done,g < k) → (∀ f ∈ todo,f < k) → F.length = k →
   left F + (ops.size - k) ≤ fuel → (∀ i,F[i]? = some true → ∀ j ∈ waits ops i,F[j]? = some true) →
   (∀ f ∈ todo,F[f]? = some false) → (∀ f ∈ fl,f ∈ todo ∨ F[f]? = some true) → Part ops k st rs w0 E Zo gh F a w → wpAny P .any ops Q fuel (lay0 ops.size F) a w
 | [],done,fuel,F,a,w,t,c,_,_,_,_,_,_,hF,hl,hc,_,hfl,r=>head_sound A hQ hrun htail fuel F a w hF hl hc (fun f hf=>(hfl f hf).resolve_left (by simp)) r
 | f :: todo,done,fuel,F,a,w,t,c,hb,hv,ht,hd,hdk,hk,hF,hl,hc,hf,hfl,r=>by
   have hfF:=hf f Zx
   have hfk:=hk f Zx
   have hleft:=left_set hfF
   obtain ⟨fuel,rfl⟩ : ∃ n,fuel = n + 1:=⟨fuel - 1,by omega⟩
   have hsz : f < ops.size:=by have:=A.le; omega
   have ho : ops[f]? = some ops[f]:=Zp hsz
   unfold fltG at hb
   unfold fltV at hv
   rw [ho] at hb hv
   simp only at hv
   simp only [Zu,Yc] at hb
   obtain ⟨⟨hb1,hb2⟩,⟨⟨hb3,hb4⟩,hb5⟩,hb6⟩:=hb
   have hfn : f ∉ todo:=fun h=>by have:=Yf.2 h; rw [hb1] at this; cases this
   have hg : (ops[f]).guard = none:=by simpa using hb4
   have hw : ∀ j ∈ waits ops f,j ∈ done:=by
    intro j hj
    obtain ⟨e,he,hbe,rfl⟩:=(waits_spec ho).1 hj
    have:=Zq.1 hb5 e (Yh.2 he)
    rw [hbe] at this
    simpa using this
   have hwant : Region.wanted ops[f] (yielded ops a.tmps) = true:=by unfold Region.wanted; rw [hg]
   obtain ⟨v,x,hrunv,hx,hv2⟩ : ∃ v x,(∀ w : World,(execOp a.eval ops[f]).run P w = .ok (.value v) w) ∧ RV c x v ∧ fltV ops todo (putT t (ops[f]).dst x) = true:=by
    cases hop : (ops[f]).op with
    | move x =>
     rw [hop] at hv
     exact ⟨a.eval x,_,fun w=>by simp only [execOp,hop]; rfl,ev_RV ht x,hv⟩
    | binOp op ty x y u =>
     cases op <;> rw [hop] at hv hb3 <;> first | (cases hb3; done) | skip
     all_goals
      have e1:=ev_RV ht x
      have e2:=ev_RV ht y
      simp only at hv
      split at hv
      ·rename_i k0 a0 k1 b0 h1 h2
       simp only [Zu,decide_eq_true_eq] at hv
       obtain ⟨rfl,hv⟩:=hv
       rw [h1] at e1
       rw [h2] at e2
       have e1 : a.eval x = .int k0 a0:=e1
       have e2 : a.eval y = .int k0 b0:=e2
       first
       | refine ⟨.int k0 (k0.wrap (a0 + b0)),V.int k0 (k0.wrap (a0 + b0)),fun w=>?_,rfl,hv⟩
         simp only [execOp,hop,e1,e2]
         cases k0 <;> rfl
       | refine ⟨.int k0 (k0.wrap (a0 - b0)),V.int k0 (k0.wrap (a0 - b0)),fun w=>?_,rfl,hv⟩
         simp only [execOp,hop,e1,e2]
         cases k0 <;> rfl
      ·cases hv
    | _=>rw [hop] at hb3; cases hb3
   refine wpAny_first (v:=v) ho (fun j o cs b hj=>noSel_out hns hj cs b) (fun c a w h=>(hP c _ _ h).elim) fuel (lay0 ops.size F) a w (fun j oj hj hne hun hno=>?_) ?_ (.inl ⟨hwant,hrunv⟩) ?_
   ·have:=Zq.1 hb6 j (ZU.2 (Zr.1 hj).1)
    rw [hj] at this
    simp only [ZJ] at this
    rcases this with (h | h) | h | h
    ·exact absurd (ZV h) hne
    ·exfalso
     have hm : j ∈ done:=by simpa using h
     have hF2:=hd j hm
     rw [Zb,lay0_get (by have:=hdk j hm; omega),hF2] at hun
     cases hun
    ·obtain ⟨e,he,h2⟩:=Yt.1 h
     simp only [Zu] at h2
     exact absurd (ZV h2.2) (hno e (Yh.1 he) h2.1)
    ·exact h
   ·refine mem_ready.2 ⟨?_,_,ho,fun e he hbe=>?_⟩
    ·rw [Zb,lay0_get (by omega),hfF]; rfl
    ·have hm : e.on ∈ done:=hw _ ((waits_spec ho).2 ⟨e,he,hbe,rfl⟩)
     rw [Zb,lay0_get (by have:=hdk _ hm; omega),hd _ hm]; rfl
   ·rw [lay0_set (by omega)]
    have hpart : Part ops k st rs w0 E Zo gh (F.set f true) (a.put (ops[f]).dst v) w:=by
     rcases head_step (Q:=fun _ _ _=>False) (K':=fun a' w'=>Part ops k st rs w0 E Zo gh (F.set f true) a' w') A hrun hF hc r hfk hsz hfF (fun j hj=>hd j (hw j hj)) (fun _ _ h=>h) with ⟨_,h⟩ | ⟨h,_⟩
     ·unfold Oper.wp at h
      rw [hrunv w] at h
      exact h
     ·rw [hwant] at h; cases h
    have hset : ∀ g,F[g]? = some true → (F.set f true)[g]? = some true:=fun g h=>by
     by_cases e : g = f
     ·subst e; rw [Zi (by omega)]
     ·rw [Zj (fun q=>e q.symm)]; exact h
    refine flt_soundG A hQ hns hP hrun htail todo (f :: done) fuel (F.set f true) _ w _ c hb2 hv2 (ht.put hx _) (fun g hg=>?_) (fun g hg=>?_) (fun g hg=>hk g (ZE _ hg)) (by simpa using hF) (by omega) ?_ (fun g hg=>?_) (fun g hg=>?_) hpart
    ·rcases ZI.1 hg with rfl | hg
     ·rw [Zi (by omega)]
     ·exact hset g (hd g hg)
    ·rcases ZI.1 hg with rfl | hg
     ·exact hfk
     ·exact hdk g hg
    ·intro j hj l hl
     by_cases e : j = f
     ·subst e
      exact hset l (hd l (hw l hl))
     ·rw [Zj (fun q=>e q.symm)] at hj
      exact hset l (hc j hj l hl)
    ·have hne : g ≠ f:=fun e=>hfn (e ▸ hg)
     rw [Zj (fun q=>hne q.symm)]
     exact hf g (ZE _ hg)
    ·rcases hfl g hg with h | h
     ·rcases ZI.1 h with rfl | h
      ·exact .inr (by rw [Zi (by omega)])
      ·exact .inl h
     ·exact .inr (hset g h)
theorem SW.drawnG {st : St} {Q : Exit → St → Prop} {id : Nat} (fl : List Nat) (k : Nat) (hm : P.follows .mixedOrders = true) (hk : anyF ops fl k = true) (hf : fltG ops [] fl = true) (hfv : fltV ops fl st.t = true) (hns : noSel ops = true) (hP : ∀ c st,¬ Q (.panic c) st)
  (h : RQ P (dsts ops) k ops.toList st (Q .normal)) : SW P (.region id ops true) st Q:=by
 intro w0 E Zo gh a w r
 have A:=Any.of hk
 obtain ⟨rs,st',hrun,htail⟩:=RQ_run h
 refine wp_region_any hm ?_
 have hlenk : (ops.toList.take k).length = k:=by simp [A.le]
 have hrl : rs.length = k:=by rw [hrun.len,hlenk]
 have h0 : YD ops.size false = lay0 ops.size (Za k false):=by
  have:=A.le
  unfold lay0
  rw [Ys,ZM,show k + (ops.size - k) = ops.size by omega]
  simp
 rw [h0]
 obtain ⟨β,M,g1,g2,g3,g4,g5⟩:=r
 refine flt_soundG (K:=Q .normal) (w0:=w0) (E:=E) (Zo:=Zo) (gh:=gh) A (fun st a w hq hr=>⟨st,hq,hr⟩) hns (fun c a w ⟨st,h,_⟩=>hP c st h) hrun htail fl [] ops.size _ a _ st.t _ hf hfv g4 (fun g hg=>by cases hg) (fun g hg=>by cases hg) A.flt (by simp) ?_ (fun i hi=>?_) (fun f hf=>?_) (fun f hf=>.inl hf) ?_
 ·have h1 : ∀ n,left (Za n false) = n:=by
   intro n
   induction n with
   | zero=>rfl
   | succ n ih=>simp [Zh,left,ih]; omega
  have:=A.le
  rw [h1]; omega
 ·rw [Zw] at hi
  split at hi <;> cases hi
 ·rw [Zw,if_pos (A.flt f hf)]
 ·unfold Part
  rw [runT_none]
  have hf : ∀ (l : List Res),∃ n,flatM l (Za l.length false) = Za n .hole:=by
   intro l
   induction l with
   | nil=>exact ⟨0,rfl⟩
   | cons x xs ih =>
    obtain ⟨n,hn⟩:=ih
    refine ⟨(newOf x).length + n,?_⟩
    simp [Zh,flatM,hn,← ZM]
  obtain ⟨n,hn⟩:=hf rs
  rw [hrl] at hn
  rw [hn]
  have hG : Grow w { w with drawn:=w.drawn + 1 }:=Grow.drew w
  obtain ⟨M1,hle⟩:=(M.grow hG).holes n
  refine ⟨_,M1,?_,g2.trans (hG.mono (fun _ q=>q.elim)),g3,g4.mono ((cx_le_grow hG).trans hle),g5.mono ((cx_le_grow hG).trans hle)⟩
  rintro b ⟨p,q,l,h1,h2,h3⟩
  rcases getElem?_append_holes h1 with h1 | ⟨_,rfl⟩
  ·rw [Ze (by rw [M.len]; exact (Zc.1 h1).1)] at h2
   exact g1 b ⟨p,q,l,h1,h2,h3⟩
  ·simp [Ob.blk] at h3
end
end Go.Pm
end
section
namespace Go.Pm
open Go.RowKit
theorem Keep.refl (w : World) : Keep w w:=fun b=>.inl rfl
theorem Keep.trans {w w' w'' : World} (h1 : Keep w w') (h2 : Keep w' w'') : Keep w w'':=fun b=>by
 rcases h1 b with e1 | ⟨m1,m2⟩ <;> rcases h2 b with e2 | ⟨m3,m4⟩
 ·exact .inl (e2.trans e1)
 ·rw [e1] at m3; exact .inr ⟨m3,m4⟩
 ·rw [← e2] at m2; exact .inr ⟨m1,m2⟩
 ·exact .inr ⟨m1,m4⟩
theorem Keep.symm {w w' : World} (h : Keep w w') : Keep w' w:=fun b=>(h b).imp Eq.symm And.symm
theorem Keep.cell {w w' : World} (h : Keep w w') (a : Addr) : w'.cell? a = w.cell? a:=by
 unfold World.cell?
 rcases h a.block with e | ⟨⟨es,n,e1⟩,es',n',e2⟩
 ·rw [e]
 ·rw [e1,e2]
theorem Keep.shape {w w' : World} (h : Keep w w') (r : Nat) : w'.shape? r = w.shape? r:=by
 unfold World.shape?
 rcases h r with e | ⟨⟨es,n,e1⟩,es',n',e2⟩
 ·rw [e]
 ·rw [e1,e2]
theorem Keep.seen {w w' : World} (h : Keep w w') {p : Program} {at_ k : Addr} {u : TypeId} {at2 : Bool} : w'.seen p at_ u k at2 = w.seen p at_ u k at2:=by
 unfold World.seen
 rcases h at_.block with e | ⟨⟨es,n,e1⟩,es',n',e2⟩
 ·rw [e]
 ·rw [e1,e2]
theorem Keep.far {w w' : World} (h : Keep w w') {p : Program} {a : Addr} {at2 : Bool} {r : Value × List Addr} (hr : w.farLoad p a at2 = .ok r) : w'.farLoad p a at2 = .ok r:=by
 unfold World.farLoad at hr ⊢
 rcases h a.block with e | ⟨⟨es,n,e1⟩,es',n',e2⟩
 ·rw [e]
  split
  ·rename_i at_ u hv
   rw [hv] at hr
   simp only at hr
   have : w'.viewLoad p at_ u a at2 = w.viewLoad p at_ u a at2:=by unfold World.viewLoad; rw [h.seen]
   rw [this]; exact hr
  ·rename_i hne
   split at hr
   ·rename_i at_ u hv; exact absurd hv (hne at_ u)
   ·cases hr
 ·rw [e1] at hr; cases hr
inductive Rd {α : Type} : Sem α → Prop
 | pure (a : α) : Rd (.pure a)
 | load {m : Mode} {a : Addr} {k : Value → Sem α} : (∀ v,Rd (k v)) → Rd (.load m a k)
 | shape {r : Nat} {k : Option (TypeId × Nat) → Sem α} : (∀ v,Rd (k v)) → Rd (.shape r k)
 | program {k : Program → Sem α} : (∀ p,Rd (k p)) → Rd (.program k)
 | kind {r : Nat} {k : Obj → Sem α} : (∀ es n es' n',k (Obj.map es n) = k (Obj.map es' n')) → (∀ o,Rd (k o)) → Rd (.getObj r k)
 | halt (h : Halt) : Rd (.halt h)
theorem Rd.bind {α β : Type} {s : Sem α} {f : α → Sem β} (hs : Rd s) (hf : ∀ a,Rd (f a)) : Rd (s.bind f):=by
 induction hs with
 | pure a=>exact hf a
 | load _ ih=>exact .load fun v=>ih v
 | shape _ ih=>exact .shape fun v=>ih v
 | program _ ih=>exact .program fun v=>ih v
 | kind he _ ih=>exact .kind (fun es n es' n'=>congrArg (Sem.bind · f) (he es n es' n')) fun v=>ih v
 | halt h=>exact .halt h
theorem Rd.run {α : Type} {s : Sem α} (hs : Rd s) {P : Program} {w w' w1 : World} {x : α} (hk : Keep w w') (h : s.run P w = .ok x w1) : w1 = w ∧ s.run P w' = .ok x w':=by
 induction hs with
 | pure a =>
  simp only [Sem.run] at h ⊢
  injection h with h1 h2
  exact ⟨h2.symm,by rw [h1]⟩
 | @load m a k _ ih =>
  simp only [Sem.run] at h ⊢
  rw [hk.cell a]
  cases hc : w.cell? a with
  | some v=>rw [hc] at h; exact ih v h
  | none =>
   rw [hc] at h
   simp only at h ⊢
   cases hf : w.farLoad P a (m == .atomic) with
   | error e=>rw [hf] at h; cases h
   | ok r =>
    rw [hf] at h
    rw [hk.far hf]
    exact ih r.1 h
 | @shape r k _ ih =>
  simp only [Sem.run] at h ⊢
  rw [hk.shape r]
  exact ih _ h
 | @program k _ ih =>
  simp only [Sem.run] at h ⊢
  exact ih _ h
 | @kind r k he _ ih =>
  simp only [Sem.run] at h ⊢
  rcases hk r with e | ⟨⟨es,n,e1⟩,es',n',e2⟩
  ·rw [e]
   split at h
   ·cases h
   ·rename_i o hn ho
    exact ih _ h
   ·cases h
  ·rw [e1] at h
   rw [e2]
   simp only at h ⊢
   have:=ih _ h
   refine ⟨this.1,?_⟩
   rw [he es' n' es n]
   exact this.2
 | halt e=>simp only [Sem.run] at h; cases h
theorem rd_program : Rd program:=.program fun p=>.pure p
theorem rd_typeInfo (t : TypeId) : Rd (typeInfo t):=rd_program.bind fun p=>by
 split
 ·exact .pure _
 ·exact .halt _
theorem rd_underlying (t : TypeId) : Rd (underlying t):=rd_program.bind fun p=>by
 split
 ·exact .pure _
 ·exact .halt _
theorem rd_sizeOf (t : TypeId) : Rd (sizeOf t):=(rd_typeInfo t).bind fun i=>.pure _
theorem rd_isAgg (t : TypeId) : Rd (isAgg t):=(rd_underlying t).bind fun d=>by
 split <;> exact .pure _
theorem rd_load (a : Addr) : Rd (load a):=.load fun v=>.pure v
theorem rd_loadCells (a : Addr) : ∀ (n i : Nat) (acc : Array Value),Rd (loadCellsFrom a i n acc)
 | 0,i,acc=>.pure _
 | n + 1,i,acc=>(rd_load _).bind fun v=>rd_loadCells a n (i + 1) _
theorem rd_loadVar (t : TypeId) (a : Addr) : Rd (loadVar t a):=(rd_isAgg t).bind fun b=>by
 cases b
 ·exact rd_load a
 ·exact (rd_sizeOf t).bind fun n=>(rd_loadCells a n 0 #[]).bind fun cs=>.pure _
theorem rd_sureAddr (v : Value) : Rd (Instr.sureAddr v):=by
 unfold Instr.sureAddr
 split
 ·exact .pure _
 ·exact .halt _
theorem rd_loadAt (t : TypeId) (v : Value) : Rd (Instr.loadAt t v):=(rd_sureAddr v).bind fun a=>rd_loadVar t a
theorem rd_noView (a : Addr) : Rd (noView a):=by
 unfold noView
 refine Rd.bind ?_ fun x=>?_
 ·unfold viewAt
  refine Rd.bind (.shape fun v=>.pure v) fun y=>?_
  split
  ·exact .pure _
  ·show Rd (Sem.getObj a.block fun o=>(Sem.pure o).bind _)
   refine .kind (fun _ _ _ _=>rfl) fun o=>?_
   simp only [Sem.bind]
   split <;> exact .pure _
 ·split
  ·exact .halt _
  ·exact .pure _
theorem rd_byteOf (a : Addr) : Rd (byteOf a):=by
 unfold byteOf
 split
 ·exact .pure _
 ·refine rd_program.bind fun p=>(rd_noView a).bind fun _=>?_
  refine Rd.bind (.shape fun v=>.pure v) fun x=>?_
  split
  ·simp only
   split
   ·exact .pure _
   ·split
    ·exact .pure _
    ·exact .halt _
  ·exact .halt _
theorem rd_fieldPlace (a : Addr) (f : Field) : Rd (fieldPlace a f):=by
 unfold fieldPlace
 refine (rd_sizeOf _).bind fun n=>?_
 split
 ·unfold partAt
  exact (rd_byteOf _).bind fun b=>(rd_byteOf _).bind fun b2=>.pure _
 ·exact .pure _
theorem rd_fieldAt (s : TypeId) (v : Value) (i : Nat) : Rd (Instr.fieldAt s v i):=by
 unfold Instr.fieldAt
 refine (rd_underlying s).bind fun d=>?_
 split
 ·split
  ·exact (rd_sureAddr v).bind fun a=>(rd_fieldPlace a _).bind fun a=>.pure _
  ·exact .halt _
 ·exact .halt _
theorem rd_extract (v : Value) (i : Nat) : Rd (Instr.extract v i):=by
 unfold Instr.extract
 split
 ·split
  ·exact .pure _
  ·exact .halt _
 ·exact .halt _
def lookK : Op → Bool
 | .move _=>true
 | .extract _ _=>true
 | .fieldAddr _ _ _=>true
 | .load _ _=>true
 | _=>false
theorem look_run {P : Program} {o : Oper} {ev : Operand → Value} (hk : lookK o.op = true) {w w1 w' : World} {x : Next} (hw : Keep w w') (h : (execOp ev o).run P w = .ok x w1) : ∃ v,x = .value v ∧ w1 = w ∧ (execOp ev o).run P w' = .ok (.value v) w':=by
 have key : ∀ s : Sem Value,Rd s → ((do pure (.value (← s)) : Sem Next)).run P w = .ok x w1 → ∃ v,x = .value v ∧ w1 = w ∧ ((do pure (.value (← s)) : Sem Next)).run P w' = .ok (.value v) w':=by
  intro s hs h
  have hr : Rd (do pure (.value (← s)) : Sem Next):=hs.bind fun v=>.pure _
  obtain ⟨h1,h2⟩:=hr.run hw h
  rw [Sem.run_bind] at h
  cases hv : s.run P w with
  | halt e w2=>rw [hv] at h; cases h
  | ok v w2 =>
   rw [hv,Result.andThen_ok] at h
   simp only [Sem.run_pure] at h
   injection h with h3 h4
   subst h3
   exact ⟨v,rfl,h1,h2⟩
 cases hop : o.op <;> rw [hop] at hk <;> first | (cases hk; done) | skip
 ·rename_i y
  simp only [execOp,hop] at h ⊢
  simp only [Sem.run_pure] at h ⊢
  injection h with h1 h2
  exact ⟨_,h1.symm,h2.symm,rfl⟩
 all_goals
  simp only [execOp,hop] at h ⊢
  first
  | exact key _ (rd_loadAt _ _) h
  | exact key _ (rd_fieldAt _ _ _) h
  | exact key _ (rd_extract _ _) h
section
variable {P : Program} {ops : Array Oper} {K : St → Prop} {w0 : World} {E Zo : Nat → Prop} {gh : List Value} {Q : Exit → Act → World → Prop}
theorem least_false : ∀ {F : List Bool},left F ≠ 0 → ∃ f : Nat,F[f]? = some false ∧ ∀ j : Nat,j < f → F[j]? = some true
 | [],h=>absurd rfl h
 | false :: F,_=>⟨0,rfl,fun j hj=>by omega⟩
 | true :: F,h=>by
   obtain ⟨f,h1,h2⟩:=least_false (F:=F) (by simpa [left] using h)
   refine ⟨f + 1,by simpa using h1,fun j hj=>?_⟩
   cases j with
   | zero=>rfl
   | succ j=>simpa using h2 j (by omega)
theorem late_sound {S : World → Prop} {fl : List Nat} {k : Nat} {st st' : St} {rs : List Res} (A : Any ops fl k) (hns : noSel ops = true) (hP : ∀ c a w,¬ Q (.panic c) a w) (hrun : Run P (dsts ops) (ops.toList.take k) st rs st')
  (hstab : ∀ f ∈ fl,∀ o,ops[f]? = some o → o.guard = none ∧ ∀ (ev : Operand → Value) w x w1,S w → (execOp ev o).run P w = .ok x w1 → ∃ v,x = .value v ∧ w1 = w ∧ ∀ w',S w' → (execOp ev o).run P w' = .ok (.value v) w')
  (hfree : ∀ f ∈ fl,∀ o,ops[f]? = some o → ∀ j oj,ops[j]? = some oj → j ≠ f → f ∈ waits ops j ∨ j ∈ waits ops f ∨ o.apart ops oj = true)
  (htail : ∀ fuel a w,ops.size - k ≤ fuel → S w → Rel w0 E Zo gh st' a w → wpAnyH P .any ops Q S fuel (flags ops.size k) a w) :
  ∀ (n : Nat) (F : List Bool) (a : Act) (w : World) (fuel : Nat),left F = n → F.length = k → n + (ops.size - k) ≤ fuel → (∀ i,F[i]? = some true → ∀ j ∈ waits ops i,F[j]? = some true) →
   (∀ j,F[j]? = some false → j ∈ fl) → S w → Part ops k st rs w0 E Zo gh F a w → wpAnyH P .any ops Q S fuel (lay0 ops.size F) a w
 | 0,F,a,w,fuel,hn,hF,hl,hc,hfl,hS,r=>by
   have hlenk : (ops.toList.take k).length = k:=by simp [A.le]
   have hall:=left_zero hn
   rw [hF] at hall
   subst hall
   rw [lay0_all A.le]
   refine htail fuel a w (by omega) hS ?_
   rw [hrun.fin,hlenk]
   exact r
 | n + 1,F,a,w,fuel,hn,hF,hl,hc,hfl,hS,r=>by
   obtain ⟨f,hfF,hless⟩:=least_false (F:=F) (by omega)
   have hffl:=hfl f hfF
   have hfk : f < k:=A.flt f hffl
   have hsz : f < ops.size:=by have:=A.le; omega
   obtain ⟨fuel,rfl⟩ : ∃ m,fuel = m + 1:=⟨fuel - 1,by omega⟩
   have ho : ops[f]? = some ops[f]:=Zp hsz
   obtain ⟨hg,hst⟩:=hstab f hffl _ ho
   have hwl : ∀ j ∈ waits ops f,F[j]? = some true:=fun j hj=>hless j (A.early f hsz j hj)
   have hwant : Region.wanted ops[f] (yielded ops a.tmps) = true:=by unfold Region.wanted; rw [hg]
   have hleft:=left_set hfF
   rcases head_step (Q:=fun _ _ _=>False) (K':=fun a' w'=>Part ops k st rs w0 E Zo gh (F.set f true) a' w') A hrun hF hc r hfk hsz hfF hwl (fun _ _ h=>h) with ⟨_,h⟩ | ⟨h,_⟩
   ·unfold Oper.wp at h
    obtain ⟨v,hv,hpart⟩ : ∃ v,(∀ w',S w' → (execOp a.eval ops[f]).run P w' = .ok (.value v) w') ∧ Part ops k st rs w0 E Zo gh (F.set f true) (a.put (ops[f]).dst v) w:=by
     cases hr : (execOp a.eval ops[f]).run P w with
     | ok x w1 =>
      obtain ⟨v,rfl,rfl,h3⟩:=hst _ _ _ _ hS hr
      rw [hr] at h
      exact ⟨v,h3,h⟩
     | halt e w1 =>
      rw [hr] at h
      exfalso
      cases e <;> exact h
    refine wpAnyH_first (v:=v) ho (fun j o cs b hj=>noSel_out hns hj cs b) (fun c a w h=>(hP c _ _ h).elim) fuel (lay0 ops.size F) a w (fun j oj hj hne hun hno=>?_) ?_ (.inl ⟨hwant,hv⟩) hS ?_
    ·rcases hfree f hffl _ ho j oj hj hne with h1 | h1 | h1
     ·obtain ⟨e,he,hb,h2⟩:=(waits_spec hj).1 h1
      exact absurd h2 (hno e he hb)
     ·exfalso
      have h2:=hwl j h1
      rw [Zb,lay0_get (by have:=A.early f hsz j h1; omega),h2] at hun
      cases hun
     ·exact h1
    ·refine mem_ready.2 ⟨?_,_,ho,fun e he hbe=>?_⟩
     ·rw [Zb,lay0_get (by omega),hfF]; rfl
     ·have hm:=hwl _ ((waits_spec ho).2 ⟨e,he,hbe,rfl⟩)
      rw [Zb,lay0_get (by have:=A.early f hsz _ ((waits_spec ho).2 ⟨e,he,hbe,rfl⟩); omega),hm]; rfl
    ·rw [lay0_set (by omega)]
     refine late_sound A hns hP hrun hstab hfree htail n (F.set f true) _ w fuel (by omega) (by simpa using hF) (by omega) (fun i hi j hj=>?_) (fun j hj=>?_) hS hpart
     ·have hset : ∀ g,F[g]? = some true → (F.set f true)[g]? = some true:=fun g h=>by
       by_cases e : g = f
       ·subst e; rw [Zi (by omega)]
       ·rw [Zj (fun q=>e q.symm)]; exact h
      by_cases e : i = f
      ·subst e; exact hset j (hwl j hj)
      ·rw [Zj (fun q=>e q.symm)] at hi
       exact hset j (hc i hi j hj)
     ·by_cases e : j = f
      ·subst e; rw [Zi (by omega)] at hj; cases hj
      ·rw [Zj (fun q=>e q.symm)] at hj
       exact hfl j hj
   ·rw [hwant] at h; cases h
theorem head_late {fl : List Nat} {k : Nat} {st st' : St} {rs : List Res} (A : Any ops fl k) (hrun : Run P (dsts ops) (ops.toList.take k) st rs st')
  (hlate : ∀ (F : List Bool) (a : Act) (w : World) (fuel : Nat),F.length = k → left F + (ops.size - k) ≤ fuel → (∀ i,F[i]? = some true → ∀ j ∈ waits ops i,F[j]? = some true) → (∀ j : Nat,F[j]? = some false → j ∈ fl) → Part ops k st rs w0 E Zo gh F a w → wpAny P .any ops Q fuel (lay0 ops.size F) a w) :
  ∀ (fuel : Nat) (F : List Bool) (a : Act) (w : World),F.length = k → left F + (ops.size - k) ≤ fuel → (∀ i,F[i]? = some true → ∀ j ∈ waits ops i,F[j]? = some true) → Part ops k st rs w0 E Zo gh F a w → wpAny P .any ops Q fuel (lay0 ops.size F) a w:=by
 intro fuel
 induction fuel with
 | zero =>
  intro F a w hF hl hc r
  have h0 : left F = 0:=by omega
  have hall:=left_zero h0
  refine hlate F a w 0 hF hl hc (fun j hj=>?_) r
  rw [hall,Zw] at hj
  split at hj <;> cases hj
 | succ fuel ih =>
  intro F a w hF hl hc r
  by_cases hall : ∀ j : Nat,F[j]? = some false → j ∈ fl
  ·exact hlate F a w (fuel + 1) hF hl hc hall r
  obtain ⟨j0,hj0,hjf0⟩ : ∃ j0 : Nat,F[j0]? = some false ∧ j0 ∉ fl:=Classical.byContradiction fun h=>hall fun j hj=>Classical.byContradiction fun h2=>h ⟨j,hj,h2⟩
  have hj0k : j0 < k:=by have:=(Zc.1 hj0).1; omega
  refine ⟨fun hr=>?_,fun i hi=>?_⟩
  ·exfalso
   have hsz : (lay0 ops.size F).size = ops.size:=by have:=A.le; simp [lay0]; omega
   have:=ready_some hsz A.early hr j0 (by have:=A.le; omega)
   rw [lay0_get (by omega),hj0] at this
   cases this
  ·obtain ⟨h1,h2,h3⟩:=ready_waits hi
   have hik : i < k:=by
    by_cases hik : i < k
    ·exact hik
    ·exfalso
     have hw3 : ∀ l ∈ waits ops i,F[l]? = some true:=by
      intro l hl2
      have:=h3 l hl2
      by_cases hlk : l < F.length
      ·rw [Zb,lay0_get hlk] at this
       cases hb : F[l]? with
       | none=>rw [hb] at this; cases this
       | some b=>rw [hb] at this; simpa using this
      ·exfalso
       rw [Zb] at this
       unfold lay0 at this
       rw [YC,Zd (by omega),Zw] at this
       split at this <;> simp at this
     have hanc0 : ∀ {a b : Nat},Anc ops a b → (∀ l ∈ waits ops a,F[l]? = some true) → F[b]? = some true:=by
      intro a b h
      induction h with
      | one h=>exact fun hw=>hw _ h
      | more h _ ih=>exact fun hw=>ih (hc _ (hw _ h))
     have:=hanc0 (A.tail i (by omega) h2 j0 (by omega) hjf0) hw3
     rw [hj0] at this
     cases this
   have hiF : F[i]? = some false:=by
    rw [Zb,lay0_get (by omega)] at h1
    have hlt : i < F.length:=by omega
    rw [Zy hlt] at h1 ⊢
    simpa using h1
   have h3' : ∀ j ∈ waits ops i,F[j]? = some true:=by
    intro j hj
    have hj2:=A.early i h2 j hj
    have:=h3 j hj
    rw [Zb,lay0_get (by omega)] at this
    cases hb : F[j]? with
    | none=>rw [hb] at this; cases this
    | some b=>rw [hb] at this; simpa using this
   rw [lay0_set (by omega)]
   have hnext : ∀ (a' : Act) (w' : World),Part ops k st rs w0 E Zo gh (F.set i true) a' w' → wpAny P .any ops Q fuel (lay0 ops.size (F.set i true)) a' w':=by
    intro a' w' hp
    refine ih (F.set i true) a' w' (by simpa using hF) (by have:=left_set hiF; omega) ?_ hp
    intro j hj l hl
    by_cases e : j = i
    ·subst e
     have hlj:=A.early j h2 l hl
     rw [Zj (by omega)]
     exact h3' l hl
    ·rw [Zj (fun q=>e q.symm)] at hj
     have:=hc j hj l hl
     by_cases e2 : l = i
     ·subst e2
      rw [Zi (by omega)]
     ·rw [Zj (fun q=>e2 q.symm)]
      exact this
   rcases head_step (Q:=Q) A hrun hF hc r hik h2 hiF h3' hnext with ⟨hw,h⟩ | ⟨hw,h⟩
   ·unfold wpOp
    rw [Zp h2]
    simp only
    rw [if_pos hw]
    exact .inl h
   ·unfold wpOp
    rw [Zp h2]
    simp only
    rw [if_neg (by rw [hw]; decide)]
    exact h
theorem tail_held {S : World → Prop} {fl : List Nat} {k : Nat} (A : Any ops fl k) (hQ : ∀ st a w,K st → Rel w0 E Zo gh st a w → Q .normal a w)
  (hkeep : ∀ (i : Nat) (o : Oper) (st : St) (K : St → Prop) (a : Act) (w : World),k ≤ i → ops[i]? = some o → S1 P o st K → S w → Rel w0 E Zo gh st a w → o.wp P a w (fun a' w'=>S w' ∧ ∃ st',K st' ∧ Rel w0 E Zo gh st' a' w') Q) :
  ∀ (fuel i : Nat) (st : St) (a : Act) (w : World),k ≤ i → i ≤ ops.size → ops.size ≤ i + fuel → RS P (dsts ops) (ops.toList.drop i) st K → S w → Rel w0 E Zo gh st a w → wpAnyH P .any ops Q S fuel (flags ops.size i) a w:=by
 have hdone : ∀ st a w,RS P (dsts ops) (ops.toList.drop ops.size) st K → Rel w0 E Zo gh st a w → Region.ready .any ops (flags ops.size ops.size) = [] ∧ Q .normal a w:=by
  intro st a w h r
  have hd : ops.toList.drop ops.size = []:=by simp
  rw [hd] at h
  have hr : Region.ready .any ops (flags ops.size ops.size) = []:=by
   rcases hl : Region.ready .any ops (flags ops.size ops.size) with _ | ⟨j,js⟩
   ·rfl
   ·exfalso
    have hj : j ∈ Region.ready .any ops (flags ops.size ops.size):=by rw [hl]; exact Zx
    obtain ⟨h1,h2,_⟩:=ready_waits hj
    rw [Zb,flags_get _ _ _ h2] at h1
    simp [h2] at h1
  exact ⟨hr,hQ st a w h r⟩
 intro fuel
 induction fuel with
 | zero =>
  intro i st a w hk hi hf h hS r
  have : i = ops.size:=by omega
  subst this
  exact hdone st a w h r
 | succ fuel ih =>
  intro i st a w hk hi hf h hS r
  by_cases hend : i = ops.size
  ·subst hend
   obtain ⟨h1,h2⟩:=hdone st a w h r
   exact ⟨fun _=>h2,by rw [h1]; simp⟩
  ·have hlt : i < ops.size:=by omega
   refine ⟨fun hr=>?_,fun j hj=>?_⟩
   ·exfalso
    have:=ready_some (by simp [flags]) A.early hr i hlt
    rw [flags_get _ _ _ hlt] at this
    simp at this
   ·obtain ⟨h1,h2,h3⟩:=ready_waits hj
    rw [Zb,flags_get _ _ _ h2] at h1
    have h1 : i ≤ j:=by simpa using h1
    have hji : j = i:=by
     by_cases hne : j = i
     ·exact hne
     ·exfalso
      have hlst : ∀ l ∈ waits ops j,l < i:=by
       intro l hl
       have hlj:=A.early j h2 l hl
       have:=h3 l hl
       rw [Zb,flags_get _ _ _ (by omega)] at this
       simpa using this
      cases A.tail j (by omega) h2 i (by omega) (fun hf=>by have:=A.flt i hf; omega) with
      | one h=>have:=hlst i h; omega
      | more h k =>
       have h4:=hlst _ h
       have:=k.lt A.early (by omega)
       omega
    subst hji
    rw [flags_next hlt]
    have ho : ops[j]? = some ops[j]:=Zp hlt
    have hd : ops.toList.drop j = ops[j] :: ops.toList.drop (j + 1):=by
     rw [YN (by simpa using hlt)]
     simp
    rw [hd] at h
    unfold wpOp
    rw [ho]
    simp only
    have r0:=r
    obtain ⟨β,M,g1,g2,g3,g4,g5⟩:=r
    rcases gv_cases h with ⟨hw,hA⟩ | ⟨hw,hB⟩
    ·have hw':=wantT_sound (x:=.junk) (a:=a) hw (fun _ _ d _ _=>by
      have h1:=g4.getD d undef
      have h2 : a.tmps.toList.getD d undef = a.tmps.getD d undef:=by simp
      rwa [h2] at h1)
     rw [if_pos hw']
     refine .inl (Oper.wp_mono ?_ (hkeep j _ st _ a w hk ho hA hS r0))
     rintro a' w' ⟨hS',st',hk',hr'⟩
     exact ⟨hS',ih (j + 1) st' a' w' (by omega) (by omega) (by omega) hk' hS' hr'⟩
    ·have hw':=wantT_sound (x:=.junk) (a:=a) hw (fun _ _ d _ _=>by
      have h1:=g4.getD d undef
      have h2 : a.tmps.toList.getD d undef = a.tmps.getD d undef:=by simp
      rwa [h2] at h1)
     rw [if_neg (by rw [hw']; decide)]
     exact ⟨hS,ih (j + 1) _ _ w (by omega) (by omega) (by omega) hB hS ⟨β,M,g1,g2,by cases (ops[j]).dst <;> exact g3,g4.put (x:=.tup []) RV_udf (ops[j]).dst,g5⟩⟩
end
def tailK : Op → Bool
 | .mapEntry _ _ _=>true
 | .entryStore _ _ _ _=>true
 | .extract _ _=>true
 | _=>false
def pureK : Op → Bool
 | .move _=>true
 | .extract _ _=>true
 | _=>false
theorem pure_run {P : Program} {o : Oper} {ev : Operand → Value} (hk : pureK o.op = true) {w w1 : World} {x : Next} (h : (execOp ev o).run P w = .ok x w1) : ∃ v,x = .value v ∧ w1 = w ∧ ∀ w',(execOp ev o).run P w' = .ok (.value v) w':=by
 cases hop : o.op <;> rw [hop] at hk <;> first | (cases hk; done) | skip
 ·rename_i y
  simp only [execOp,hop] at h ⊢
  simp only [Sem.run_pure] at h ⊢
  injection h with h1 h2
  exact ⟨_,h1.symm,h2.symm,fun _=>rfl⟩
 ·rename_i y i
  simp only [execOp,hop] at h ⊢
  cases hy : ev y with
  | tuple vs =>
   rw [hy] at h
   cases hv : vs[i]? with
   | none=>simp [Instr.extract,hv,stuck,Sem.run_bind,Sem.run] at h
   | some v =>
    simp only [Instr.extract,hv,Sem.run_bind,Sem.run_pure,Result.andThen_ok] at h ⊢
    injection h with h1 h2
    exact ⟨v,h1.symm,h2.symm,fun _=>rfl⟩
  | _=>rw [hy] at h; simp [Instr.extract,stuck,Sem.run_bind,Sem.run] at h
theorem S1_keep {P : Program} {o : Oper} {st : St} {K : St → Prop} (hk : tailK o.op = true) (h : S1 P o st K) : OWK P o st K:=by
 have hs:=S1_sound h
 cases hop : o.op <;> rw [hop] at hk <;> first | (cases hk; done) | skip
 ·simp only [S1,hop] at h
  exact s_mapEntryK hop h
 ·simp only [S1,hop] at h
  exact s_entryStoreK hop h
 ·intro w0 E Zo gh a w Q r
  have h1:=hs w0 E Zo gh a w Q r
  unfold Oper.wp at h1 ⊢
  cases hr : (execOp a.eval o).run P w with
  | ok x w1 =>
   obtain ⟨v,rfl,rfl,_⟩:=look_run (by rw [hop]; rfl) (Keep.refl w) hr
   rw [hr] at h1
   exact ⟨Keep.refl _,h1⟩
  | halt e w1 =>
   rw [hr] at h1
   cases e <;> exact h1
def lateB (ops : Array Oper) (fl : List Nat) (k : Nat) : Bool :=
 (fl.all fun f=>match ops[f]? with
  | some o=>o.guard.isNone && ((ZA ops.size).all fun j=>ZB j f || (match ops[j]? with
    | some oj=>(oj.after.toList.any fun e=>Region.binds .any e && ZB e.on f) || ((o.after.toList.any fun e=>Region.binds .any e && ZB e.on j) || o.apart ops oj)
    | none=>true))
  | none=>false) &&
 ((fl.all fun f=>match ops[f]? with
   | some o=>pureK o.op
   | none=>false) ||
  ((fl.all fun f=>match ops[f]? with
   | some o=>lookK o.op
   | none=>false) && ((ZA ops.size).all fun i=>Ye i k || (match ops[i]? with
     | some o=>tailK o.op
     | none=>true))))
theorem SW.drawnL {P : Program} {ops : Array Oper} {st : St} {Q : Exit → St → Prop} {id : Nat} (fl : List Nat) (k : Nat) (hm : P.follows .mixedOrders = true) (hk : anyF ops fl k = true) (hl : lateB ops fl k = true) (hns : noSel ops = true) (hP : ∀ c st,¬ Q (.panic c) st)
  (h : RQ P (dsts ops) k ops.toList st (Q .normal)) : SW P (.region id ops true) st Q:=by
 intro w0 E Zo gh a w r
 have A:=Any.of hk
 obtain ⟨rs,st',hrun,htail⟩:=RQ_run h
 refine wp_region_any hm ?_
 have hlenk : (ops.toList.take k).length = k:=by simp [A.le]
 have hrl : rs.length = k:=by rw [hrun.len,hlenk]
 have h0 : YD ops.size false = lay0 ops.size (Za k false):=by
  have:=A.le
  unfold lay0
  rw [Ys,ZM,show k + (ops.size - k) = ops.size by omega]
  simp
 rw [h0]
 unfold lateB at hl
 simp only [Zu] at hl
 obtain ⟨hl1,hl2⟩:=hl
 have hpart : ∀ f ∈ fl,∀ o,ops[f]? = some o → o.guard = none ∧ ∀ j oj,ops[j]? = some oj → j ≠ f → f ∈ waits ops j ∨ j ∈ waits ops f ∨ o.apart ops oj = true:=by
  intro f hf o ho
  have:=Zq.1 hl1 f hf
  rw [ho] at this
  simp only [Zu] at this
  refine ⟨by simpa using this.1,fun j oj hj hne=>?_⟩
  have h2:=Zq.1 this.2 j (ZU.2 (Zr.1 hj).1)
  rw [hj] at h2
  simp only [ZJ] at h2
  rcases h2 with h2 | h2 | h2 | h2
  ·exact absurd (ZV h2) hne
  ·obtain ⟨e,he,h3⟩:=Yt.1 h2
   simp only [Zu] at h3
   exact .inl ((waits_spec hj).2 ⟨e,Yh.1 he,h3.1,ZV h3.2⟩)
  ·obtain ⟨e,he,h3⟩:=Yt.1 h2
   simp only [Zu] at h3
   exact .inr (.inl ((waits_spec ho).2 ⟨e,Yh.1 he,h3.1,ZV h3.2⟩))
  ·exact .inr (.inr h2)
 have hPp : ∀ c (a : Act) (w : World),¬ (∃ st,Q (.panic c) st ∧ Rel w0 E Zo gh st a w):=fun c a w ⟨st,h,_⟩=>hP c st h
 obtain ⟨β,M,g1,g2,g3,g4,g5⟩:=r
 refine head_late (w0:=w0) (E:=E) (Zo:=Zo) (gh:=gh) A hrun (fun F a w fuel hF hl3 hc hall r=>?_) ops.size _ a _ (by simp) ?_ (fun i hi=>?_) ?_
 ·rcases ZJ _ _ ▸ hl2 with hl2 | hl2
  ·refine wpAny_of_held fuel _ a w (late_sound (S:=fun _=>True) A hns hPp hrun (fun f hf o ho=>⟨(hpart f hf o ho).1,fun ev w x w1 _ hr=>?_⟩) (fun f hf o ho=>(hpart f hf o ho).2) (fun fuel a w hfu hS r=>tail_held (K:=Q .normal) A (fun st a w hq hr=>⟨st,hq,hr⟩) (fun i o st K a w _ _ hS1 _ r=>Oper.wp_mono (fun a w h=>⟨trivial,h⟩) (S1_sound hS1 w0 E Zo gh a w _ r)) fuel k st' a w (Zk _) A.le (by omega) htail hS r) (left F) F a w fuel rfl hF hl3 hc hall trivial r)
   have hp:=Zq.1 hl2 f hf
   rw [ho] at hp
   obtain ⟨v,h1,h2,h3⟩:=pure_run hp hr
   exact ⟨v,h1,h2,fun w' _=>h3 w'⟩
  ·simp only [Zu] at hl2
   obtain ⟨hl4,hl5⟩:=hl2
   refine wpAny_of_held fuel _ a w (late_sound (S:=Keep w) A hns hPp hrun (fun f hf o ho=>⟨(hpart f hf o ho).1,fun ev w2 x w1 hS hr=>?_⟩) (fun f hf o ho=>(hpart f hf o ho).2) (fun fuel a w2 hfu hS r=>tail_held (K:=Q .normal) A (fun st a w hq hr=>⟨st,hq,hr⟩) (fun i o st K a w2 hki ho hS1 hS2 r=>?_) fuel k st' a w2 (Zk _) A.le (by omega) htail hS r) (left F) F a w fuel rfl hF hl3 hc hall (Keep.refl w) r)
   ·have hp:=Zq.1 hl4 f hf
    rw [ho] at hp
    obtain ⟨v,h1,h2,_⟩:=look_run hp (Keep.refl w2) hr
    refine ⟨v,h1,h2,fun w' hS'=>?_⟩
    obtain ⟨v',h3,h4,h5⟩:=look_run hp (hS.symm.trans hS') hr
    rw [h1] at h3; injection h3 with h3; subst h3
    exact h5
   ·have hp:=Zq.1 hl5 i (ZU.2 (Zr.1 ho).1)
    rw [ho] at hp
    simp only [ZJ] at hp
    rcases hp with hp | hp
    ·have:=blt_iff.1 hp; omega
    ·exact Oper.wp_mono (fun a w h=>⟨hS2.trans h.1,h.2⟩) (S1_keep hp hS1 w0 E Zo gh a w2 _ r)
 ·have h1 : ∀ n,left (Za n false) = n:=by
   intro n
   induction n with
   | zero=>rfl
   | succ n ih=>simp [Zh,left,ih]; omega
  have:=A.le
  rw [h1]; omega
 ·rw [Zw] at hi
  split at hi <;> cases hi
 ·unfold Part
  rw [runT_none]
  have hf : ∀ (l : List Res),∃ n,flatM l (Za l.length false) = Za n .hole:=by
   intro l
   induction l with
   | nil=>exact ⟨0,rfl⟩
   | cons x xs ih =>
    obtain ⟨n,hn⟩:=ih
    refine ⟨(newOf x).length + n,?_⟩
    simp [Zh,flatM,hn,← ZM]
  obtain ⟨n,hn⟩:=hf rs
  rw [hrl] at hn
  rw [hn]
  have hG : Grow w { w with drawn:=w.drawn + 1 }:=Grow.drew w
  obtain ⟨M1,hle⟩:=(M.grow hG).holes n
  refine ⟨_,M1,?_,g2.trans (hG.mono (fun _ q=>q.elim)),g3,g4.mono ((cx_le_grow hG).trans hle),g5.mono ((cx_le_grow hG).trans hle)⟩
  rintro b ⟨p,q,l,h1,h2,h3⟩
  rcases getElem?_append_holes h1 with h1 | ⟨_,rfl⟩
  ·rw [Ze (by rw [M.len]; exact (Zc.1 h1).1)] at h2
   exact g1 b ⟨p,q,l,h1,h2,h3⟩
  ·simp [Ob.blk] at h3
def fltOf (ops : Array Oper) (k : Nat) : List Nat :=
 let l:=ops.toList
 let as:=ancs (l.map fun o=>(o.after.toList.filter (Region.binds .any)).map (·.on)) []
 (ZA k).filter fun j=>(ZA l.length).any fun i=>Nat.ble k i && !(as.getD i []).contains j
def okB (ops : Array Oper) (t : List V) (k : Nat) : Bool:=anyB ops k || (anyF ops (fltOf ops k) k && (((fltG ops [] (fltOf ops k) && fltV ops (fltOf ops k) t) || lateB ops (fltOf ops k) k) && noSel ops))
theorem SW.drawnO {P : Program} {ops : Array Oper} {st : St} {Q : Exit → St → Prop} {id : Nat} (k : Nat) (hm : P.follows .mixedOrders = true) (hk : okB ops st.t k = true) (h : RQ P (dsts ops) k ops.toList st (Q .normal)) : SW P (.region id ops true) st Q:=by
 unfold okB at hk
 simp only [ZJ,Zu] at hk
 rcases hk with hk | ⟨h1,h2 | h2,h4⟩
 ·exact SW.drawn k hm hk h
 ·refine SW.mono (Q:=fun e st=>match e with | .normal=>Q .normal st | _=>False) (SW.drawnG (fltOf ops k) k hm h1 h2.1 h2.2 h4 (fun c st h=>h) h) fun e st h=>?_
  cases e <;> first | exact h | exact h.elim
 ·refine SW.mono (Q:=fun e st=>match e with | .normal=>Q .normal st | _=>False) (SW.drawnL (fltOf ops k) k hm h1 h2 h4 (fun c st h=>h) h) fun e st h=>?_
  cases e <;> first | exact h | exact h.elim
end Go.Pm
end
end
