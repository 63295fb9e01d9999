/- Live events: made, marked, held against marks. No conditions but lengths and bounds of numbers. One event of a graph, handed back as a copy. No conditions but lengths. The law of EventAt: for every graph and id. No conditions but the sizes that an input has. The law of SortOf: for every graph. No conditions but the sizes that an input has. The abstract machine: the kit's sorts, as contracts on an array of the caller's. The kit's sorts at this program. Rising lists of numbers: the reference's insertion; the library's Compact; the program's sorted. Conditions: lengths that fit a machine. Rising lists of numbers: inserting, sorting and squeezing come to the same. No program in sight. The abstract machine: drawn regions in which looks at what nobody writes any more may come late. The abstract machine: what an array holds is told anew, where it names what is frozen. What a graph's parked events wait for: both sides come to one rising list. Conditions: lengths that fit a machine. Spans: comparisons, marks, and what is held against them. No conditions but lengths and bounds of numbers. The spans of rising numbers, and what a graph has: both models, and the law of HaveOf. Conditions: lengths that fit a machine. Spans that are right, and what lies in them: both models. Conditions: lengths. The events of a graph that spans do not name: both models. Conditions: sizes that an input has. MoreThan: both models. Conditions: sizes that an input has. The law of MoreThan: for every graph and l -/
import Derived.Shelf.SlSortCmp.NoneTotal
import Derived.Shelf.SlLaysF0
import Derived.Shelf.SlLaysM
import Derived.Shelf.SortM.Plain
import Derived.Shelf.SortM.SortNone
import Derived.Test.YtdkgiboofhlilaaRows
import Derived.WalkKit
import Derived.ProofKit
import Derived.OpenShut
import Derived.ShutString
import Derived.ChangeOld
import Derived.Below
import Derived.SizedLaws
import Derived.Test.YtdkgiboofhlilaaB4
set_option linter.unusedSimpArgs false
set_option linter.unusedVariables false
set_option maxRecDepth 10000
set_option maxHeartbeats 4000000
open List renaming nil_append → Za, append_assoc → Zb, cons_append → Zc, getElem?_eq_getElem → Zf, getElem?_append_right → Zg, getElem?_cons_succ → Zh, getElem?_eq_some_iff → Zi, append_nil → Zj, getElem?_map → Zp, length_cons → Zq, take_of_length_le → Zr, getElem?_append_left → Zt, length_append → Zv, mem_cons → Zw, length_take → Zy, getD_eq_getElem?_getD → Zz, take → ZA, map_cons → ZB, mem_map → ZC, length_map → ZG, getElem_mem → ZH, take_add_one → ZI, mem_cons_self → ZL, drop_eq_nil_of_le → ZN, replicate → ZO, map_append → ZQ, mem_of_getElem? → ZR, ext_getElem? → ZT, getElem?_eq_none → ZV, mem_append → ZW, mem_cons_of_mem → ZX, map_nil → ZY, set_set → Ya, length_set → Yb, mem_singleton → Yd, take_append_drop → Ye, not_mem_nil → Yf, map_map → Yg, map_congr_left → Yh, set_append_right → Yi, drop_zero → Yk, all_eq_true → Yl, map_singleton → Ym, singleton_append → Yn, getElem?_drop → Yo, set_cons_succ → Yp, set_cons_zero → Yq, replicate_succ → Yr, getElem?_concat_length → Ys, length_singleton → Yt
open Bool renaming not_true → Zd, true_and → Zx, false_and → ZE, and_eq_true → ZS, not_false → Yc
open Int renaming ofNat_lt → Ze, add_zero → ZZ
open Nat renaming sub_lt_sub_left → Zk, lt_succ_self → Zl, le_refl → Zm, zero_le → Zn, add_sub_cancel_left → Zs, sub_self → Zu, succ_ne_zero → ZD, add_zero → ZF, add_comm → ZJ, beq → ZK, zero_add → ZM, add_assoc → Yj
open Option renaming toList_some → ZP, map_some → ZU
section
namespace Go.Proofs.Ytdkgiboofhlilaa
open Go.Pm
open Go.Gm (Ev Gr)
@[mvcgen_simp] theorem jk_refl : ∀ xs : List V,jk xs xs = True
 | []=>jk_nil
 | x :: xs=>by rw [jk_cons,jk_refl xs]; simp
theorem clY.at1 {P : Program} {f : FuncId} {q n sz sz' : Nat} {rest : List V} {m : List Ob} {zs zs' : List (List V)} {r : V} {K KL : V → List Ob → Prop} (h : LCon P f (.ar 0 0 n :: rest) [.arr true sz zs] r [.arr true sz' zs'])
  (hq : m[q]? = some (.arr true sz zs)) (hp : (Ob.arr true sz zs).pure) (hp' : (Ob.arr true sz' zs').pure) (hr : Ref (fun _=>False) r) (hrest : Refs (fun _=>False) rest) (hcv : convs m rest = rest)
  (k : KL r (m.set q (.arr true sz' zs'))) : @clY P (.fn f [] []) (.ar q 0 n :: rest) m ⟨K,KL⟩:=by
 have hlt:=(Zi.1 hq).1
 have hl : (m.take q).length = q:=by rw [Zy]; omega
 have hx : (m.drop q) = .arr true sz zs :: m.drop (q + 1):=by rw [List.drop_eq_getElem_cons hlt,(Zi.1 hq).2]
 have pr : ∀ {s : Nat} {z : List (List V)} {ok : Nat → Prop},(Ob.arr true s z).pure → (Ob.arr true s z).refs ok:=fun hz=>Refss.mono (fun _ h=>h.elim) _ hz
 refine clY.seg (A:=m.take q) (B:=[.arr true sz zs]) (B':=[.arr true sz' zs']) (C:=m.drop (q + 1)) h rfl (fun ob ho=>?_) (fun ob ho=>?_) ⟨Nat.zero_lt_one,Refs.mono (fun _ h=>h.elim) _ hrest⟩ (Ref.mono (fun _ h=>h.elim) _ hr) ?_ ?_ ?_ ?_
 ·rw [Yd] at ho; subst ho; exact ⟨pr hp,rfl⟩
 ·rw [Yd] at ho; subst ho; exact pr hp'
 ·rw [Ym,Ob.ren_pure _ hp,Zb,Yn,← hx,Ye]
 ·simp only [rens,V.ren,hl,ZF,rens_pure _ hrest,Za,Zj]
 ·simp only [Za,Zj,convs,hcv]
  simp only [conv,hq]
 ·rw [V.ren_pure _ hr,Ym,Ob.ren_pure _ hp',Zb,Yn]
  have : m.take q ++ .arr true sz' zs' :: m.drop (q + 1) = m.set q (.arr true sz' zs'):=by
   apply ZT
   intro j
   rw [List.getElem?_append,List.getElem?_set,hl,List.getElem?_take]
   by_cases h1 : j < q
   ·rw [if_pos h1,if_pos h1,if_neg (by omega)]
   ·rw [if_neg h1]
    by_cases h2 : q = j
    ·subst h2
     rw [if_pos rfl,if_pos hlt,Zu]; rfl
    ·rw [if_neg h2,show j - q = (j - q - 1) + 1 by omega,Zh,Yo]
     congr 1; omega
  rw [this]; exact k
theorem LResY.tail {m A L : List Ob} {x r : V} (em : m = A ++ L.map (Ob.ren (A.length + ·))) (ex : x = r.ren (A.length + ·)) (hL : ∀ ob ∈ L,ob.refs (· < L.length)) (hr : Ref (· < L.length) r) : @LResY m [] x ⟨[],r,L⟩:=by
 subst em; subst ex
 have hin : ∀ q,q ∈ segK A.length L.length → ∃ (h : q - A.length < L.length),(A ++ L.map (Ob.ren (A.length + ·))).getD q .hole = (L[q - A.length]).ren (A.length + ·):=fun q hq=>by
  obtain ⟨h1,h2⟩:=segK_mem.1 hq
  have h3 : q - A.length < L.length:=by omega
  refine ⟨h3,?_⟩
  rw [Zz,Zg h1,Zp,Zf h3]; rfl
 have hidx : ∀ o,o < L.length → idx (segK A.length L.length) (A.length + o) = o:=fun o ho=>by rw [segK_idx (by omega)]; omega
 refine LResY.mk (segK A.length L.length) ⟨segK_nodup _ _,fun q hq=>?_,fun q hq=>?_,?_,⟨.inr ⟨?_,?_⟩,rfl⟩,rfl⟩
 ·have:=segK_mem.1 hq
  simp only [Zv,ZG]; omega
 ·obtain ⟨h3,e⟩:=hin q hq
  simp only
  rw [e]
  refine Ob.refs_ren ?_
  have h2:=hL _ (ZH h3)
  revert h2
  generalize L[q - A.length] = ob
  cases ob with
  | hole=>exact fun _=>trivial
  | dead=>exact fun _=>trivial
  | box lv cs=>exact fun h2=>Refs.mono (fun o ho=>segK_mem.2 (by omega)) _ h2
  | arr lv sz xs=>exact fun h2=>Refss.mono (fun o ho=>segK_mem.2 (by omega)) _ h2
  | mp lv ks vs=>exact fun h2=>⟨Refs.mono (fun o ho=>segK_mem.2 (by omega)) _ h2.1,Refs.mono (fun o ho=>segK_mem.2 (by omega)) _ h2.2⟩
 ·simp only
  apply ZT
  intro i
  rw [Zp,segK_get]
  by_cases hi : i < L.length
  ·rw [if_pos hi,Zf hi,ZU]
   obtain ⟨h3,e⟩:=hin (A.length + i) (segK_mem.2 (by omega))
   rw [e,Ob.ren_twice]
   simp only [Zs]
   rw [Ob.ren_self hidx (hL _ (ZH hi))]
  ·rw [if_neg hi,ZV (by omega)]; rfl
 ·exact Ref.ren _ (Ref.mono (fun o ho=>segK_mem.2 (by omega)) _ hr)
 ·rw [V.twice]
  have:=V.congr (ρ:=fun o=>idx (segK A.length L.length) (A.length + o)) (σ:=fun o=>o) hidx r hr
  rw [this,V.ren_id]
theorem plc_refs {ok : Nat → Prop} : ∀ (m : List Ob) (o : Nat),(∀ i,o ≤ i → i < o + m.length → ok i) → ∀ x ∈ plc o m,Ref ok x
 | [],o,h,x,hx=>by simp [plc] at hx
 | ob :: m,o,h,x,hx=>by
   rw [plc] at hx
   rcases ZW.1 hx with hx | hx
   ·have:=h o (Zm _) (by simp only [Zq]; omega)
    cases ob <;> simp only [plc1,Zw,Yf,or_false] at hx
    ·subst hx; exact this
    ·rcases hx with rfl | rfl <;> exact this
    ·subst hx; exact this
   ·exact plc_refs m (o + 1) (fun i h1 h2=>h i (by omega) (by simp only [Zq]; omega)) x hx
theorem wkT_id {ks : List Nat} (hk : ∀ q ∈ ks,idx ks q = q) : ∀ {xs : List V},(∀ x ∈ xs,Ref (· ∈ ks) x) → wkT ks xs xs
 | [],_=>rfl
 | x :: xs,h=>⟨.inr ⟨h x ZL,by rw [V.congr (σ:=fun o=>o) hk x (h x ZL),V.ren_id]⟩,wkT_id hk fun y hy=>h y (ZX _ hy)⟩
theorem LResY.head {m L D m0 : List Ob} {r : V} (em : m = L ++ D) (hl : L.length = m0.length) (hL : ∀ ob ∈ L,ob.refs (· < L.length)) (hr : Ref (· < L.length) r) : @LResY m (plc 0 m0) r ⟨m0,r,L⟩:=by
 subst em
 have hidx : ∀ o,o < L.length → idx (segK 0 L.length) o = o:=fun o ho=>by rw [segK_idx (by omega)]; omega
 have hidx2 : ∀ q ∈ segK 0 L.length,idx (segK 0 L.length) q = q:=fun q hq=>hidx q (by have:=segK_mem.1 hq; omega)
 have hin : ∀ q,q ∈ segK 0 L.length → ∃ (h : q < L.length),(L ++ D).getD q .hole = L[q]:=fun q hq=>by
  have h3 : q < L.length:=by have:=segK_mem.1 hq; omega
  refine ⟨h3,?_⟩
  rw [Zz,Zt h3,Zf h3]; rfl
 refine LResY.mk (segK 0 L.length) ⟨segK_nodup _ _,fun q hq=>?_,fun q hq=>?_,?_,⟨.inr ⟨?_,?_⟩,rfl⟩,?_⟩
 ·obtain ⟨h3,_⟩:=hin q hq
  simp only [Zv]; omega
 ·obtain ⟨h3,e⟩:=hin q hq
  simp only
  rw [e]
  have h2:=hL _ (ZH h3)
  revert h2
  generalize L[q] = ob
  cases ob with
  | hole=>exact fun _=>trivial
  | dead=>exact fun _=>trivial
  | box lv cs=>exact fun h2=>Refs.mono (fun o ho=>segK_mem.2 (by omega)) _ h2
  | arr lv sz xs=>exact fun h2=>Refss.mono (fun o ho=>segK_mem.2 (by omega)) _ h2
  | mp lv ks vs=>exact fun h2=>⟨Refs.mono (fun o ho=>segK_mem.2 (by omega)) _ h2.1,Refs.mono (fun o ho=>segK_mem.2 (by omega)) _ h2.2⟩
 ·simp only
  apply ZT
  intro i
  rw [Zp,segK_get]
  by_cases hi : i < L.length
  ·rw [if_pos hi,Zf hi,ZU]
   obtain ⟨h3,e⟩:=hin (0 + i) (segK_mem.2 (by omega))
   rw [e]
   simp only [ZM]
   rw [Ob.ren_self hidx (hL _ (ZH hi))]
  ·rw [if_neg hi,ZV (by omega)]; rfl
 ·exact Ref.mono (fun o ho=>segK_mem.2 (by omega)) _ hr
 ·rw [V.congr (σ:=fun o=>o) hidx r hr,V.ren_id]
 ·exact wkT_id hidx2 (plc_refs m0 0 fun i h1 h2=>segK_mem.2 (by omega))
theorem LResY.tail3 {a b c : Ob} {m L : List Ob} {x r : V} (em : m = L.map (Ob.ren (3 + ·))) (ex : x = r.ren (3 + ·)) (hL : ∀ ob ∈ L,ob.refs (· < L.length)) (hr : Ref (· < L.length) r) : @LResY (a :: b :: c :: m) [] x ⟨[],r,L⟩ :=
 LResY.tail (A:=[a,b,c]) (by subst em; rfl) ex hL hr
def rowEv (q : Nat) (e : Ev) : List V:=[.int .i64 e.id,.int .i64 e.room,.int .i64 e.author,.int .i64 e.kind,.int .i64 e.key,.int .i64 e.n,.str e.text,.ar q 0 e.prev.length,.int .i64 e.time]
def rowsEv : Nat → List Ev → List (List V)
 | _,[]=>[]
 | q,e :: l=>rowEv q e :: rowsEv (q + 1) l
def obI (e : Ev) : Ob:=.arr true 1 (e.prev.map encI)
def obE (l : List Ev) : List Ob:=.arr true 9 (rowsEv 1 l) :: l.map obI
theorem rowsEv_len : ∀ (q : Nat) (l : List Ev),(rowsEv q l).length = l.length
 | _,[]=>rfl
 | q,e :: l=>by simp [rowsEv,rowsEv_len (q + 1) l]
theorem rowsEv_app : ∀ (q : Nat) (l l' : List Ev),rowsEv q (l ++ l') = rowsEv q l ++ rowsEv (q + l.length) l'
 | _,[],l'=>rfl
 | q,e :: l,l'=>by
   simp only [Zc,rowsEv,rowsEv_app (q + 1) l l',Zq]
   rw [show q + 1 + l.length = q + (l.length + 1) by omega]
theorem rowsEv_get : ∀ (q : Nat) (l : List Ev) (i : Nat),(rowsEv q l)[i]? = (l[i]?).map (rowEv (q + i))
 | _,[],i=>by simp [rowsEv]
 | q,e :: l,0=>by simp [rowsEv]
 | q,e :: l,i + 1=>by
   simp only [rowsEv,Zh,rowsEv_get (q + 1) l i]
   rw [show q + 1 + i = q + (i + 1) by omega]
theorem rowsEv_set : ∀ (q : Nat) (l : List Ev) (i : Nat) (e : Ev),(rowsEv q l).set i (rowEv (q + i) e) = rowsEv q (l.set i e)
 | _,[],i,e=>by simp [rowsEv]
 | q,x :: l,0,e=>by simp [rowsEv]
 | q,x :: l,i + 1,e=>by
   simp only [rowsEv,Yp]
   rw [← rowsEv_set (q + 1) l i e,show q + 1 + i = q + (i + 1) by omega]
theorem rowsEv_ren (b : Nat) : ∀ (q : Nat) (l : List Ev),renss (b + ·) (rowsEv q l) = rowsEv (b + q) l
 | _,[]=>rfl
 | q,e :: l=>by
   simp only [rowsEv,renss,rowsEv_ren b (q + 1) l]
   rfl
theorem obI_ren (ρ : Nat → Nat) (e : Ev) : (obI e).ren ρ = obI e:=by
 unfold obI
 simp only [Ob.ren,encI_rens]
def obEb (b : Nat) (l : List Ev) : List Ob:=.arr true 9 (rowsEv (b + 1) l) :: l.map obI
theorem obE_ren (b : Nat) (l : List Ev) : (obE l).map (Ob.ren (b + ·)) = obEb b l:=by
 unfold obE obEb
 simp only [ZB,Ob.ren,rowsEv_ren,Yg]
 congr 1
 exact Yh fun e _=>obI_ren _ e
theorem obE_b (l : List Ev) : obE l = obEb 0 l:=by unfold obE obEb; rw [ZM]
theorem obE_len (l : List Ev) : (obE l).length = l.length + 1:=by simp [obE]
theorem obEb_len (b : Nat) (l : List Ev) : (obEb b l).length = l.length + 1:=by simp [obEb]
theorem obI_refs (ok : Nat → Prop) (e : Ev) : (obI e).refs ok:=of_eq_true (encI_refs ok e.prev)
theorem rowsEv_refs {ok : Nat → Prop} : ∀ (q : Nat) (l : List Ev),(∀ i,q ≤ i → i < q + l.length → ok i) → Refss ok (rowsEv q l)
 | _,[],_=>trivial
 | q,e :: l,h=>⟨⟨trivial,trivial,trivial,trivial,trivial,trivial,trivial,h q (Zm _) (by simp),trivial,trivial⟩,rowsEv_refs (q + 1) l fun i h1 h2=>h i (by omega) (by simp only [Zq]; omega)⟩
theorem obE_refs {n : Nat} (l : List Ev) (h : l.length < n) : ∀ ob ∈ obE l,ob.refs (· < n):=fun ob ho=>by
 rcases Zw.1 ho with rfl | ho
 ·exact rowsEv_refs 1 l fun i h1 h2=>by omega
 ·obtain ⟨e,_,rfl⟩:=ZC.1 ho
  exact obI_refs _ e
theorem obE_alive (l : List Ev) : ∀ ob ∈ obE l,ob.alive = true:=fun ob ho=>by
 rcases Zw.1 ho with rfl | ho
 ·rfl
 ·obtain ⟨e,_,rfl⟩:=ZC.1 ho
  rfl
def mInts : Int → Nat → List Int
 | _,0=>[]
 | k,n + 1=>k :: mInts (k + 1) n
theorem mInts_len : ∀ (n : Nat) (k : Int),(mInts k n).length = n
 | 0,k=>rfl
 | n + 1,k=>by simp [mInts,mInts_len n]
theorem mInts_succ : ∀ (n : Nat) (k : Int),mInts k (n + 1) = mInts k n ++ [k + n]
 | 0,k=>by simp [mInts]
 | n + 1,k=>by
   rw [mInts,mInts_succ n,mInts,Zc]
   congr 3
   omega
theorem mInts_get : ∀ (n : Nat) (k : Int) (i : Nat),i < n → (mInts k n)[i]? = some (k + i)
 | n + 1,k,0,h=>by simp [mInts]
 | n + 1,k,i + 1,h=>by
   simp only [mInts,Zh]
   rw [mInts_get n _ i (by omega)]
   congr 1; omega
def mEv (k : Int) (e : Ev) : Ev:=⟨k,k + 1,k + 2,k + 3,k + 4,k + 5,mText (k + 6),mInts (k + 7) e.prev.length,k + 7 + e.prev.length⟩
def wM : List Ev → Int
 | []=>0
 | e :: l=>8 + e.prev.length + wM l
def mEvs : Int → List Ev → List Ev
 | _,[]=>[]
 | k,e :: l=>mEv k e :: mEvs (k + 8 + e.prev.length) l
theorem wM_nn : ∀ l : List Ev,0 ≤ wM l
 | []=>Int.le_refl _
 | e :: l=>by have:=wM_nn l; unfold wM; omega
theorem wM_app : ∀ l l' : List Ev,wM (l ++ l') = wM l + wM l'
 | [],l'=>by simp [wM]
 | e :: l,l'=>by simp only [Zc,wM,wM_app l l']; omega
theorem mEvs_len : ∀ (k : Int) (l : List Ev),(mEvs k l).length = l.length
 | _,[]=>rfl
 | k,e :: l=>by simp [mEvs,mEvs_len _ l]
theorem mEvs_get : ∀ (k : Int) (l : List Ev) (i : Nat),(mEvs k l)[i]? = (l[i]?).map (mEv (k + wM (l.take i)))
 | _,[],i=>by simp [mEvs]
 | k,e :: l,0=>by simp [mEvs,wM]
 | k,e :: l,i + 1=>by
   simp only [mEvs,Zh,mEvs_get _ l i,List.take_succ_cons,wM]
   rw [show k + 8 + (e.prev.length : Int) + wM (l.take i) = k + (8 + (e.prev.length : Int) + wM (l.take i)) by omega]
theorem wM_le : ∀ l : List Ev,wM l ≤ 8 * (l.length + wEs l)
 | []=>by simp [wM,wEs]
 | e :: l=>by
   have:=wM_le l
   simp only [wM,wEs,wE,Zq]
   omega
def mixE (k : Int) (l : List Ev) (i : Nat) : List Ev:=(mEvs k l).take i ++ l.drop i
theorem mixE_len {k : Int} {l : List Ev} {i : Nat} : (mixE k l i).length = l.length:=by
 unfold mixE
 simp [mEvs_len]; omega
theorem mixE_zero (k : Int) (l : List Ev) : mixE k l 0 = l:=by simp [mixE]
theorem mixE_all (k : Int) (l : List Ev) : mixE k l l.length = mEvs k l:=by
 unfold mixE
 rw [Zr (by rw [mEvs_len]; omega),ZN (Zm _),Zj]
theorem mixE_get {k : Int} {l : List Ev} {i : Nat} {e : Ev} (h : l[i]? = some e) : (mixE k l i)[i]? = some e:=by
 have hi:=(Zi.1 h).1
 unfold mixE
 rw [Zg (by simp; omega),Zy,mEvs_len,Yo,show i + (i - min i l.length) = i by omega]
 exact h
theorem mixE_set {k : Int} {l : List Ev} {i : Nat} {e : Ev} (h : l[i]? = some e) : (mixE k l i).set i (mEv (k + wM (l.take i)) e) = mixE k l (i + 1):=by
 have hi:=(Zi.1 h).1
 have hm : (mEvs k l)[i]? = some (mEv (k + wM (l.take i)) e):=by rw [mEvs_get,h]; rfl
 unfold mixE
 rw [Yi _ _ (by simp; omega),Zy,mEvs_len,show i - min i l.length = 0 by omega,drop_cons h,Yq,ZI,hm]
 simp
section
variable {P : Program} [Is P]
theorem n_toEvent (e : Ev) (he : EvOK e) : NCon P 45 [.agg (encEv e)] (.agg (rowEv 0 e)) [obI e]:=by
 refine LCon.new (LCon.of (n:=33) (rs:=[.cell 2 79]) (Is.fn Try.func45) rfl (Is.call Try.call45) Try.results45 Try.ntmps45 ?_) (pure1 (pure_ints _ _))
 simp only [method_specs_simp,seval]
 simp only [method_specs_simp,seval,encEv]
 refine clY.new (n_toInt64S e.prev he.2) (by simp only [method_specs_simp]) ?_
 simp only [method_specs_simp,seval]
 refine LResY.mk [3] ?_
 simp only [mvcgen_simp,method_specs_simp,seval,rowEv,obI]
def rowsL (xs : List Ev) (k : Nat) : List (List V):=rowsEv 1 (xs.take k) ++ ZO (xs.length - k) zEv
theorem rowsL_len {xs : List Ev} {k : Nat} (hk : k ≤ xs.length) : (rowsL xs k).length = xs.length:=by
 simp [rowsL,rowsEv_len,Nat.min_eq_left hk]; omega
theorem rowsL_zero (xs : List Ev) : rowsL xs 0 = ZO xs.length zEv:=by simp [rowsL,rowsEv]
theorem rowsL_all (xs : List Ev) : rowsL xs xs.length = rowsEv 1 xs:=by simp [rowsL]
theorem rowsL_get {xs : List Ev} {k : Nat} (hk : k < xs.length) : (rowsL xs k).getD k [] = zEv:=by
 unfold rowsL
 rw [Zz,Zg (by simp [rowsEv_len]; omega),rowsEv_len,Zy,show k - min k xs.length = 0 by omega,show xs.length - k = (xs.length - (k + 1)) + 1 by omega,Yr]
 rfl
theorem rowsL_set {xs : List Ev} {k : Nat} {x : Ev} (hx : xs[k]? = some x) : (rowsL xs k).set k (rowEv (k + 1) x) = rowsL xs (k + 1):=by
 have hk:=(Zi.1 hx).1
 unfold rowsL
 rw [Yi _ _ (by simp [rowsEv_len]; omega),rowsEv_len,Zy,show k - min k xs.length = 0 by omega,show xs.length - k = (xs.length - (k + 1)) + 1 by omega,Yr,Yq,ZI,hx,ZP,rowsEv_app,Zy,Nat.min_eq_left (by omega),Zb]
 simp [rowsEv,ZJ]
theorem n_toEventS (xs : List Ev) (hx : EvsOK xs) : LCon P 127 [.sl 9 (xs.map encEv)] [] (.ar 0 0 xs.length) (obE xs):=by
 have hx1:=hx.1
 refine LCon.ofJ (n:=23) (rs:=[.tmp 2]) (Is.fn Try.func127) rfl (Is.call Try.call127) Try.results127 Try.ntmps127 ?_
 simp only [method_specs_simp,seval]
 refine ⟨by omega,by omega,by omega,?_⟩
 refine SW.whileJ (A:=Nat) (fun k=>⟨pad 23 [.sl 9 (xs.map encEv),.junk,.nil,.ar 0 0 xs.length,.int .i64 k],.arr true 9 (rowsL xs k) :: (xs.take k).map obI,[]⟩) (fun k=>xs.length - k) (fun k=>k ≤ xs.length) 0 (Zn _) ?_ ?_
 ·have ez : ZO xs.length [V.int .i64 0,.int .i64 0,.int .i64 0,.int .i64 0,.int .i64 0,.int .i64 0,.str ByteArray.empty,.nil,.int .i64 0] = rowsL xs 0:=(rowsL_zero _).symm
  rw [ez]
  simp only [mvcgen_simp,method_specs_simp,seval]
 ·intro k hk
  refine CW.sound ?_
  simp only [method_specs_simp,seval]
  refine gB_split (fun h=>?_) (fun h=>?_)
  ·simp only [decide_eq_true_eq,Ze] at h
   have hxk : xs[k]? = some xs[k]:=Zf h
   have hOK:=hx.2 _ (ZH h)
   generalize xs[k] = x at hxk hOK
   simp only [Zp,hxk,method_specs_simp,seval]
   refine ⟨by omega,by omega,by simp [encEv],?_⟩
   rw [show ZA 9 (encEv x) = encEv x from rfl]
   have hl : ((xs.take k).map obI).length = k:=by simp; omega
   refine clY.new (n_toEvent x hOK) (by simp only [method_specs_simp,encEv]) ?_
   simp only [method_specs_simp,seval,rowEv,hl]
   have e1 : (rowsL xs k).set k (V.int IntKind.i64 x.id :: V.int IntKind.i64 x.room :: V.int IntKind.i64 x.author :: V.int IntKind.i64 x.kind :: V.int IntKind.i64 x.key :: V.int IntKind.i64 x.n :: V.str x.text :: V.ar (k + 1) 0 x.prev.length :: V.int IntKind.i64 x.time :: List.drop 9 ((rowsL xs k).getD k [])) = rowsL xs (k + 1):=by
    rw [rowsL_get h]; exact rowsL_set hxk
   refine ⟨by omega,by omega,by rw [rowsL_len hk]; exact h,by rw [Zg (by omega),hl,Zu]; rfl,?_⟩
   rw [wrap_id (by omega) (by omega)]
   refine AgainJ.mk (k + 1) h (Zk h (Zl _)) ?_
   rw [e1,ZI,hxk,ZP,ZQ,ZB,ZY]
   simp only [mvcgen_simp,method_specs_simp,seval]
  ·simp only [decide_eq_false_iff_not,Zd,Ze] at h
   have hi : k = xs.length:=by omega
   subst hi
   rw [rowsL_all,Zr (Zm _)]
   rfl
theorem n_markInt64S (xs : List Int) (k : Int) (h0 : 0 ≤ k) (h1 : k < 2 ^ 60) (hx : xs.length < 2 ^ 60) : LCon P 36 [.ar 0 0 xs.length,.int .i64 k] [.arr true 1 (xs.map encI)] (.int .i64 (k + xs.length)) [.arr true 1 ((mInts k xs.length).map encI)]:=by
 refine LCon.of (n:=19) (rs:=[.tmp 4]) (Is.fn Try.func36) rfl (Is.call Try.call36) Try.results36 Try.ntmps36 ?_
 simp only [method_specs_simp,seval]
 refine SW.while (A:=Nat × List Int) (fun a=>⟨pad 19 [.ar 0 0 xs.length,.int .i64 (k + a.1),.junk,.junk,.junk,.int .i64 a.1],[.arr true 1 (a.2.map encI)],[.ar 0 0 xs.length,.eptr 0 1 0]⟩) (fun a=>xs.length - a.1)
   (fun a=>a.1 ≤ xs.length ∧ a.2.length = xs.length ∧ a.2.take a.1 = mInts k a.1) (0,xs) [0] ⟨Zn _,rfl,rfl⟩ ?_ ?_
 ·simp only [mvcgen_simp,method_specs_simp,seval]
  exact ZZ k
 ·rintro ⟨i,ys⟩ ⟨hi,hy,hr⟩
  simp only at hi hy hr
  refine CW.sound ?_
  simp only [method_specs_simp,seval,hy]
  refine gB_split (fun h=>?_) (fun h=>?_)
  ·simp only [decide_eq_true_eq,Ze] at h
   have e1 : IntKind.i64.wrap (k + (i : Int) + 1) = k + ((i + 1 : Nat) : Int):=by rw [wrap_id (by omega) (by omega)]; omega
   have e2 : IntKind.i64.wrap ((i : Int) + 1) = ((i + 1 : Nat) : Int):=by rw [wrap_id (by omega) (by omega)]; rfl
   simp only [method_specs_simp,seval,e1,e2]
   refine ⟨by omega,by omega,by omega,?_⟩
   refine Again.mk (i + 1,ys.set i (k + i)) [0] ⟨h,by simpa using hy,by show ZA (i + 1) _ = _; rw [take_set' (by omega),hr,mInts_succ]⟩ (Zk h (Zl _)) ?_
   simp only [mvcgen_simp,method_specs_simp,seval]
  ·have hi2 : i = xs.length:=by simp only [decide_eq_false_iff_not,Zd,Ze] at h; omega
   subst hi2
   have e3 : ys = mInts k xs.length:=by rw [← hr,Zr (by omega)]
   refine LResY.mk [0] ?_
   simp only [mvcgen_simp,method_specs_simp,seval,e3]
theorem c_heldInt64S (k : Int) (n : Nat) (h0 : 0 ≤ k) (h1 : k < 2 ^ 60) (hx : n < 2 ^ 60) : Con P 137 [.sl 1 ((mInts k n).map encI),.int .i64 k] (.int .i64 (k + n)):=by
 have e5 : ∀ a : Int,(a != a) = false:=fun a=>by simp
 have hml:=mInts_len n k
 refine Con.of (n:=21) (rs:=[.tmp 4]) (Is.fn Try.func137) rfl (Is.call Try.call137) Try.results137 Try.ntmps137 trivial ?_
 simp only [method_specs_simp,seval]
 refine SW.while (A:=Nat) (fun i=>⟨pad 21 [.sl 1 ((mInts k n).map encI),.int .i64 (k + i),.junk,.junk,.int .i64 0,.int .i64 i],[],[]⟩) (fun i=>n - i) (fun i=>i ≤ n) 0 [] (Zn _) ?_ ?_
 ·simp only [mvcgen_simp,method_specs_simp,seval]
  exact ZZ k
 ·intro i hi
  refine CW.sound ?_
  simp only [method_specs_simp,seval,hml]
  refine gB_split (fun h=>?_) (fun h=>?_)
  ·simp only [decide_eq_true_eq,Ze] at h
   have e1 : IntKind.i64.wrap (k + (i : Int) + 1) = k + ((i + 1 : Nat) : Int):=by rw [wrap_id (by omega) (by omega)]; omega
   have e2 : IntKind.i64.wrap ((i : Int) + 1) = ((i + 1 : Nat) : Int):=by rw [wrap_id (by omega) (by omega)]; rfl
   have hg:=mInts_get n k i h
   simp only [method_specs_simp,seval,hg,encI,e5,e1,e2]
   refine ⟨by omega,by omega,?_⟩
   refine Again.mk (i + 1) [] h (Zk h (Zl _)) ?_
   simp only [mvcgen_simp,method_specs_simp,seval]
  ·have hi2 : i = n:=by simp only [decide_eq_false_iff_not,Zd,Ze] at h; omega
   subst hi2
   trivial
theorem n_markEventS (xs : List Ev) (k : Int) (h0 : 0 ≤ k) (h1 : k < 2 ^ 58) (hx : EvsOK xs) (hw : k + wM xs < 2 ^ 58) : LCon P 60 [.ar 0 0 xs.length,.int .i64 k] (obE xs) (.int .i64 (k + wM xs)) (obE (mEvs k xs)):=by
 refine LCon.ofJ (n:=77) (rs:=[.tmp 4]) (Is.fn Try.func60) rfl (Is.call Try.call60) Try.results60 Try.ntmps60 ?_
 simp only [method_specs_simp,seval]
 generalize hgg : plc 0 (obE xs) = gg
 have hx1:=hx.1
 refine SW.whileJ (A:=Nat) (fun i=>⟨pad 77 [.ar 0 0 xs.length,.int .i64 (k + wM (xs.take i)),.junk,.junk,.junk,.int .i64 i],.arr true 9 (rowsEv 1 (mixE k xs i)) :: (mixE k xs i).map obI,gg⟩) (fun i=>xs.length - i) (fun i=>i ≤ xs.length) 0 (Zn _) ?_ ?_
 ·simp only [mvcgen_simp,method_specs_simp,seval]
  refine ⟨ZZ k,?_⟩
  rw [mixE_zero]; rfl
 ·intro i hi
  have hrl : (rowsEv 1 (mixE k xs i)).length = xs.length:=by rw [rowsEv_len,mixE_len]
  refine CW.sound ?_
  simp only [method_specs_simp,seval,hrl]
  refine gB_split (fun h=>?_) (fun h=>?_)
  ·simp only [decide_eq_true_eq,Ze] at h
   obtain ⟨x,hxk⟩ : ∃ x,xs[i]? = some x:=⟨_,Zf h⟩
   have hmx:=mixE_get (k:=k) hxk
   have eg : (rowsEv 1 (mixE k xs i)).getD i [] = rowEv (1 + i) x:=by rw [Zz,rowsEv_get,hmx]; rfl
   obtain ⟨z,hz⟩ : ∃ z,z = k + wM (xs.take i):=⟨_,rfl⟩
   have hb : 0 ≤ z ∧ z + 8 + x.prev.length < 2 ^ 58:=by
    have q:=wM_app (xs.take i) (xs.drop i)
    rw [Ye,drop_cons hxk,wM] at q
    have:=wM_nn (xs.take i); have:=wM_nn (xs.drop (i + 1))
    omega
   have hl : i < (rowsEv 1 (mixE k xs i)).length:=by omega
   generalize hrr : rowsEv 1 (mixE k xs i) = rr at *
   have w1 : IntKind.i64.wrap (z + 1) = z + 1:=wrap_id (by omega) (by omega)
   have w2 : IntKind.i64.wrap (z + 1 + 1) = z + 2:=by rw [wrap_id (by omega) (by omega)]; omega
   have w3 : IntKind.i64.wrap (z + 2 + 1) = z + 3:=by rw [wrap_id (by omega) (by omega)]; omega
   have w4 : IntKind.i64.wrap (z + 3 + 1) = z + 4:=by rw [wrap_id (by omega) (by omega)]; omega
   have w5 : IntKind.i64.wrap (z + 4 + 1) = z + 5:=by rw [wrap_id (by omega) (by omega)]; omega
   have w6 : IntKind.i64.wrap (z + 5 + 1) = z + 6:=by rw [wrap_id (by omega) (by omega)]; omega
   have w7 : IntKind.i64.wrap (z + 6 + 1) = z + 7:=by rw [wrap_id (by omega) (by omega)]; omega
   have w9 : IntKind.i64.wrap ((i : Int) + 1) = ((i + 1 : Nat) : Int):=by rw [wrap_id (by omega) (by omega)]; rfl
   rw [← hz]
   have hgs : ∀ v : List V,(rr.set i v)[i]? = some v:=fun v=>List.getElem?_set_self hl
   simp only [method_specs_simp,seval,w1,w2,w3,w4,w5,w6,w7,eg,rowEv,Ya,getD_set' hl,Yb,hrl]
   refine ⟨by omega,by omega,by omega,by omega,by omega,by omega,by omega,by omega,by omega,by omega,by omega,by omega,by omega,by omega,by omega,by omega,by omega,by omega,?_⟩
   refine clY.con (c147 _ (by omega)) (by simp only [method_specs_simp]) ?_
   simp only [method_specs_simp,seval,w1,w2,w3,w4,w5,w6,w7,eg,rowEv,Ya,getD_set' hl,Yb,hrl,hgs]
   refine ⟨by omega,by omega,by omega,by omega,by omega,?_⟩
   have hob : ∀ o : Ob,(o :: (mixE k xs i).map obI)[1 + i]? = some (obI x):=fun o=>by
    rw [ZJ,Zh,Zp,hmx]; rfl
   refine clY.at1 (n_markInt64S x.prev (z + 7) (by omega) (by omega) (by omega)) (hob _) (pure_ints _ _) (pure_ints _ _) trivial ⟨trivial,trivial⟩ (by simp only [convs,conv]) ?_
   have hst : ∀ o : Ob,(o :: (mixE k xs i).map obI).set (1 + i) (.arr true 1 ((mInts (z + 7) x.prev.length).map encI)) = o :: ((mixE k xs i).set i (mEv z x)).map obI:=fun o=>by
    rw [ZJ,Yp,List.map_set]; rfl
   rw [hst,hz,mixE_set hxk,← hz]
   obtain ⟨z2,hz2⟩ : ∃ z2,z2 = z + 7 + (x.prev.length : Int):=⟨_,rfl⟩
   have w8 : IntKind.i64.wrap (z2 + 1) = k + wM (xs.take (i + 1)):=by
    rw [wrap_id (by omega) (by omega),ZI,hxk,ZP,wM_app]; simp only [wM]; omega
   rw [← hz2]
   simp only [method_specs_simp,seval,w8,eg,Ya,getD_set' hl,Yb,hrl,hgs]
   refine ⟨by omega,by omega,by omega,?_⟩
   have hrow : [V.int .i64 z,V.int .i64 (z + 1),V.int .i64 (z + 2),V.int .i64 (z + 3),V.int .i64 (z + 4),V.int .i64 (z + 5),V.str (mText (z + 6)),V.ar (1 + i) 0 x.prev.length,V.int .i64 z2] = rowEv (1 + i) (mEv z x):=by
    simp only [rowEv,mEv,mInts_len,hz2]
   rw [w9,hrow,← hrr,rowsEv_set,hz,mixE_set hxk,← hz]
   refine AgainJ.mk (i + 1) h (Zk h (Zl _)) ?_
   simp only [mvcgen_simp,method_specs_simp,seval]
  ·have hi2 : i = xs.length:=by simp only [decide_eq_false_iff_not,Zd,Ze] at h; omega
   subst hi2
   rw [Zr (Zm _),mixE_all]
   exact ⟨rfl,rfl⟩
theorem mEvs_row {k : Int} {l : List Ev} {i : Nat} {x : Ev} (h : l[i]? = some x) : ((mEvs k l).map encEv)[i]? = some (encEv (mEv (k + wM (l.take i)) x)):=by
 rw [Zp,mEvs_get,h]; rfl
theorem c_heldEventS (xs : List Ev) (k : Int) (h0 : 0 ≤ k) (h1 : k < 2 ^ 58) (hx : EvsOK xs) (hw : k + wM xs < 2 ^ 58) : Con P 61 [.sl 9 ((mEvs k xs).map encEv),.int .i64 k] (.int .i64 (k + wM xs)):=by
 have e5 : ∀ a : Int,(a != a) = false:=fun a=>by simp
 have e6 : ∀ a : List UInt8,(a == a) = true:=fun a=>by simp
 have hx1:=hx.1
 have hml:=mEvs_len k xs
 refine Con.of (n:=95) (rs:=[.tmp 4]) (Is.fn Try.func61) rfl (Is.call Try.call61) Try.results61 Try.ntmps61 trivial ?_
 simp only [method_specs_simp,seval]
 refine SW.while (A:=Nat) (fun i=>⟨pad 95 [.sl 9 ((mEvs k xs).map encEv),.int .i64 (k + wM (xs.take i)),.junk,.junk,.int .i64 0,.int .i64 i],[],[]⟩) (fun i=>xs.length - i) (fun i=>i ≤ xs.length) 0 [] (Zn _) ?_ ?_
 ·simp only [mvcgen_simp,method_specs_simp,seval]
  exact ZZ k
 ·intro i hi
  refine CW.sound ?_
  simp only [method_specs_simp,seval,hml]
  refine gB_split (fun h=>?_) (fun h=>?_)
  ·simp only [decide_eq_true_eq,Ze] at h
   obtain ⟨x,hxk⟩ : ∃ x,xs[i]? = some x:=⟨_,Zf h⟩
   have hmx:=mEvs_row (k:=k) hxk
   obtain ⟨z,hz⟩ : ∃ z,z = k + wM (xs.take i):=⟨_,rfl⟩
   have hb : 0 ≤ z ∧ z + 8 + x.prev.length < 2 ^ 58:=by
    have q:=wM_app (xs.take i) (xs.drop i)
    rw [Ye,drop_cons hxk,wM] at q
    have:=wM_nn (xs.take i); have:=wM_nn (xs.drop (i + 1))
    omega
   have w1 : IntKind.i64.wrap (z + 1) = z + 1:=wrap_id (by omega) (by omega)
   have w2 : IntKind.i64.wrap (z + 1 + 1) = z + 2:=by rw [wrap_id (by omega) (by omega)]; omega
   have w3 : IntKind.i64.wrap (z + 2 + 1) = z + 3:=by rw [wrap_id (by omega) (by omega)]; omega
   have w4 : IntKind.i64.wrap (z + 3 + 1) = z + 4:=by rw [wrap_id (by omega) (by omega)]; omega
   have w5 : IntKind.i64.wrap (z + 4 + 1) = z + 5:=by rw [wrap_id (by omega) (by omega)]; omega
   have w6 : IntKind.i64.wrap (z + 5 + 1) = z + 6:=by rw [wrap_id (by omega) (by omega)]; omega
   have w7 : IntKind.i64.wrap (z + 6 + 1) = z + 7:=by rw [wrap_id (by omega) (by omega)]; omega
   have w9 : IntKind.i64.wrap ((i : Int) + 1) = ((i + 1 : Nat) : Int):=by rw [wrap_id (by omega) (by omega)]; rfl
   rw [← hz] at hmx
   rw [← hz]
   have hmx2 : (mEvs k xs)[i]? = some (mEv z x):=by rw [mEvs_get,hxk,← hz]; rfl
   simp only [method_specs_simp,seval,w1,w2,w3,w4,w5,w6,w7,hmx2,encEv,mEv,e5,hml]
   have i1 : (0 : Int) ≤ i:=by omega
   have i2 : (i : Int) < xs.length:=by omega
   refine ⟨i1,i2,i1,i2,i1,i2,i1,i2,i1,i2,i1,i2,by kernel_rfl,i1,i2,?_⟩
   refine clY.con (c147 _ (by omega)) (by simp only [method_specs_simp]) ?_
   simp only [method_specs_simp,seval,w7,hmx2,encEv,mEv,e5,e6,hml]
   refine ⟨i1,i2,?_⟩
   refine clY.con (c_heldInt64S (z + 7) x.prev.length (by omega) (by omega) (by have:=(hx.2 x (ZR hxk)).2; omega)) (by simp only [method_specs_simp]) ?_
   obtain ⟨z2,hz2⟩ : ∃ z2,z2 = z + 7 + (x.prev.length : Int):=⟨_,rfl⟩
   have hn : decide (z2 < 0) = false:=by simp; omega
   have w8 : IntKind.i64.wrap (z2 + 1) = k + wM (xs.take (i + 1)):=by
    rw [wrap_id (by omega) (by omega),ZI,hxk,ZP,wM_app]; simp only [wM]; omega
   rw [← hz2]
   simp only [method_specs_simp,seval,w8,w9,hn,hmx2,encEv,mEv,e5,hml,← hz2]
   refine ⟨i1,i2,?_⟩
   refine Again.mk (i + 1) [] h (Zk h (Zl _)) ?_
   simp only [mvcgen_simp,method_specs_simp,seval]
  ·have hi2 : i = xs.length:=by simp only [decide_eq_false_iff_not,Zd,Ze] at h; omega
   subst hi2
   rw [Zr (Zm _)]
def obG (g : Gr) : List Ob:=obE g.events ++ obEb (g.events.length + 1) g.parked
def grV (b : Nat) (g : Gr) : List V:=[.int .i64 g.room,.ar b 0 g.events.length,.ar (b + (g.events.length + 1)) 0 g.parked.length]
theorem obEb_ren (b c : Nat) (l : List Ev) : (obEb c l).map (Ob.ren (b + ·)) = obEb (b + c) l:=by
 unfold obEb
 simp only [ZB,Ob.ren,rowsEv_ren,Yg]
 rw [Yj]
 congr 1
 exact Yh fun e _=>obI_ren _ e
theorem obEb_refs {n b : Nat} (l : List Ev) (h : b + l.length < n) : ∀ ob ∈ obEb b l,ob.refs (· < n):=fun ob ho=>by
 rcases Zw.1 ho with rfl | ho
 ·exact rowsEv_refs (b + 1) l fun i h1 h2=>by omega
 ·obtain ⟨e,_,rfl⟩:=ZC.1 ho
  exact obI_refs _ e
theorem obG_len (g : Gr) : (obG g).length = g.events.length + 1 + (g.parked.length + 1):=by simp [obG,obE_len,obEb_len]
theorem obG_refs (g : Gr) : ∀ ob ∈ obG g,ob.refs (· < (obG g).length):=fun ob ho=>by
 rw [obG_len]
 rcases ZW.1 ho with ho | ho
 ·exact obE_refs _ (by omega) ob ho
 ·exact obEb_refs _ (by omega) ob ho
theorem obE_flat (l : List Ev) : ∀ ob ∈ obE l,ob.flat:=fun ob ho=>by
 rcases Zw.1 ho with rfl | ho
 ·refine ⟨rfl,?_⟩
  have : ∀ q (l : List Ev),Flatss (rowsEv q l):=fun q l=>by
   induction l generalizing q with
   | nil=>trivial
   | cons e l ih=>exact ⟨⟨trivial,trivial,trivial,trivial,trivial,trivial,trivial,trivial,trivial,trivial⟩,ih (q + 1)⟩
  exact this 1 l
 ·obtain ⟨e,_,rfl⟩:=ZC.1 ho
  exact ⟨rfl,flat_ints _⟩
theorem dcv_zero (m : List Ob) (xs : List V) : xs.map (dcv 0 m) = xs:=by
 induction xs with
 | nil=>rfl
 | cons x xs ih=>rw [ZB,ih]; rfl
theorem n_toGraph (g : Gr) (hg : GrOK g) : LCon P 40 [.agg (encGr g)] [] (.agg (grV 0 g)) (obG g):=by
 refine LCon.of (n:=16) (rs:=[.cell 2 69]) (Is.fn Try.func40) rfl (Is.call Try.call40) Try.results40 Try.ntmps40 ?_
 simp only [method_specs_simp,seval,encGr]
 refine clY.newD 0 (n_toEventS g.events hg.1) (dcv_zero _ _) (by simp only [method_specs_simp]) trivial (obE_flat _) ?_
 rw [obE_ren]
 simp only [method_specs_simp,seval,encGr,obEb]
 refine clY.newD 0 (n_toEventS g.parked hg.2) (dcv_zero _ _) (by simp only [method_specs_simp]) trivial (obE_flat _) ?_
 rw [obE_ren]
 simp only [method_specs_simp,seval,encGr,obEb]
 have hq : ∀ (o : Ob) (L : List Ob),(g.events.map obI ++ o :: L)[g.events.length]? = some o:=fun o L=>by
  rw [Zg (by simp),ZG,Zu]; rfl
 refine ⟨by unfold arrAt; rw [hq]; rfl,by rw [hq],by rw [hq],?_⟩
 refine LResY.tail3 ?_ ?_ (obG_refs g) ?_
 ·unfold obG
  rw [ZQ,obE_ren,obEb_ren]
  unfold obEb
  simp only [Zq,List.length_nil,Zc,Za,ZM]
  rw [show g.events.length + 1 + 1 + 1 + 1 + 1 = 3 + (g.events.length + 1) + 1 by omega]
 ·simp only [grV,V.ren,rens,Zq,List.length_nil,ZM]
  rw [show 3 + (g.events.length + 1) = g.events.length + 4 by omega]
 ·rw [obG_len]
  exact ⟨trivial,by show 0 < _; omega,by show 0 + (g.events.length + 1) < _; omega,trivial⟩
def mGr (k : Int) (g : Gr) : Gr:=⟨g.room,mEvs k g.events,mEvs (k + wM g.events) g.parked⟩
theorem n_markGraph (g : Gr) (k : Int) (h0 : 0 ≤ k) (h1 : k < 2 ^ 57) (hg : GrOK g) (hw : k + (wM g.events + wM g.parked) < 2 ^ 57) : LCon P 49 [.agg (grV 0 g),.int .i64 k] (obG g) (.int .i64 (k + (wM g.events + wM g.parked))) (obG (mGr k g)):=by
 have n1:=wM_nn g.events
 have n2:=wM_nn g.parked
 have q1 : ∀ o : Ob,(obG g ++ [o])[(obG g).length]? = some o:=fun o=>Ys
 have q2 : ∀ (lv : Bool) (cs : List V),boxAt (obG g ++ [Ob.box lv cs]) (obG g).length = some cs:=fun lv cs=>by unfold boxAt; rw [q1]
 refine LCon.of (n:=14) (rs:=[.tmp 4]) (Is.fn Try.func49) rfl (Is.call Try.call49) Try.results49 Try.ntmps49 ?_
 simp only [method_specs_simp,seval,grV]
 simp only [method_specs_simp,seval,grV,q1,q2]
 generalize hbx : Ob.box true [V.int IntKind.i64 g.room,V.ar 0 0 g.events.length,V.ar (g.events.length + 1) 0 g.parked.length] = bx
 refine clY.seg (A:=[]) (B:=obE g.events) (B':=obE (mEvs k g.events)) (C:=obEb (g.events.length + 1) g.parked ++ [bx]) (n_markEventS g.events k h0 (by omega) hg.1 (by omega)) ?_ ?_ ?_ ?_ trivial ?_ ?_ ?_ ?_
 ·rw [obE_len,obE_len,mEvs_len]
 ·exact fun ob ho=>⟨obE_refs _ (by rw [obE_len]; omega) ob ho,obE_alive _ ob ho⟩
 ·exact obE_refs _ (by rw [obE_len,mEvs_len]; omega)
 ·rw [obE_len]; exact ⟨by show 0 < _; omega,trivial,trivial⟩
 ·have e : (obE g.events).map (Ob.ren (([] : List Ob).length + ·)) = obE g.events:=by rw [obE_b]; exact (obEb_ren 0 0 _)
  rw [e]
  simp only [obG,Za,Zb]
 ·rfl
 ·simp only [convs,conv,Za,Zj]
  rfl
 have e : (obE (mEvs k g.events)).map (Ob.ren (([] : List Ob).length + ·)) = obE (mEvs k g.events):=by rw [obE_b]; exact (obEb_ren 0 0 _)
 rw [e,Za,← Zb]
 obtain ⟨G2,hG2⟩ : ∃ G2,G2 = obE (mEvs k g.events) ++ obEb (g.events.length + 1) g.parked:=⟨_,rfl⟩
 have hl2 : G2.length = (obG g).length:=by rw [hG2,obG_len,Zv,obE_len,obEb_len,mEvs_len]
 have q3 : ∀ o : Ob,(G2 ++ [o])[(obG g).length]? = some o:=fun o=>by rw [← hl2]; exact Ys
 have q4 : ∀ (lv : Bool) (cs : List V),boxAt (G2 ++ [Ob.box lv cs]) (obG g).length = some cs:=fun lv cs=>by unfold boxAt; rw [q3]
 rw [← hG2,← hbx]
 simp only [method_specs_simp,seval,grV,q3,q4]
 rw [hbx,hG2]
 have hA : (obE (mEvs k g.events)).length = g.events.length + 1:=by rw [obE_len,mEvs_len]
 refine clY.seg (A:=obE (mEvs k g.events)) (B:=obE g.parked) (B':=obE (mEvs (k + wM g.events) g.parked)) (C:=[bx]) (n_markEventS g.parked (k + wM g.events) (by omega) (by omega) hg.2 (by omega)) ?_ ?_ ?_ ?_ trivial ?_ ?_ ?_ ?_
 ·rw [obE_len,obE_len,mEvs_len]
 ·exact fun ob ho=>⟨obE_refs _ (by rw [obE_len]; omega) ob ho,obE_alive _ ob ho⟩
 ·exact obE_refs _ (by rw [obE_len,mEvs_len]; omega)
 ·rw [obE_len]; exact ⟨by show 0 < _; omega,trivial,trivial⟩
 ·rw [hA,obE_ren]
 ·simp only [rens,V.ren,hA,ZF,Za,Zj]
 ·have hq : (obE (mEvs k g.events) ++ obEb (g.events.length + 1) g.parked ++ [bx])[g.events.length + 1]? = some (.arr true 9 (rowsEv (g.events.length + 1 + 1) g.parked)):=by
   rw [Zb,Zg (by omega),hA,Zu]; rfl
  simp only [convs,conv,Za,Zj,hq]
 rw [hA,obE_ren]
 have hG3 : obE (mEvs k g.events) ++ obEb (g.events.length + 1) (mEvs (k + wM g.events) g.parked) = obG (mGr k g):=by
  unfold obG mGr
  simp only [mEvs_len]
 rw [hG3,show k + wM g.events + wM g.parked = k + (wM g.events + wM g.parked) by omega]
 obtain ⟨v,hv⟩ : ∃ v,v = k + (wM g.events + wM g.parked):=⟨_,rfl⟩
 rw [← hv]
 simp only [method_specs_simp,seval,grV]
 refine LResY.head rfl ?_ (obG_refs _) trivial
 rw [obG_len,obG_len]
 simp only [mGr,mEvs_len]
end
@[method_specs_simp] theorem encGr_take (g : Gr) : ZA 3 (encGr g) = encGr g:=nr rfl
@[method_specs_simp] theorem encGr_three (g : Gr) : (3 ≤ (encGr g).length) = True:=eq_true (Zm 3)
@[method_specs_simp] theorem encEv_take (e : Ev) : ZA 9 (encEv e) = encEv e:=nr rfl
@[method_specs_simp] theorem encEv_nine (e : Ev) : (9 ≤ (encEv e).length) = True:=eq_true (Zm 9)
theorem VLe.zEv : VLes zEv (encEv zE):=VLes.same (VLes.same (VLes.same (VLes.same (VLes.same (VLes.same (VLes.same (VLes.cons (VLe.nil 1) (VLes.same VLes.nil))))))))
theorem Con.weakR {P : Program} {f : FuncId} {xs : List V} {r r' : V} (h : Con P f xs r) (hl : VLe r r') (hp : Ref (fun _=>False) r') : Con P f xs r':=⟨h.ok,hp,fun w Zo us hz hu=>(h.c w Zo us hz hu).mono fun e w' ⟨v,β,e1,e2,e3,e4,e5⟩=>⟨v,β,e1,e2,e3,hl _ _ e4,e5⟩⟩
section
variable {P : Program} [Is P]
theorem n_cloneI (xs : List Int) (hx : xs.length * 8 ≤ 2 ^ 47) : NCon P 219 [.sl 1 (xs.map encI)] (.ar 0 0 xs.length) [.arr true 1 (xs.map encI)]:=by
 refine LCon.new (LCon.of (n:=8) (rs:=[.tmp 2]) (Is.fn Try.func219) rfl (Is.call Try.call219) Try.results219 Try.ntmps219 ?_) (pure1 (pure_ints _ _))
 simp only [method_specs_simp,seval]
 refine nilY.eql (fun h=>?_) ?_
 ·rw [List.map_eq_nil_iff] at h
  subst h
  simp only [method_specs_simp,seval]
  exact LResY.nil (by decide)
 ·simp only [method_specs_simp,seval]
  refine ⟨by omega,by omega,?_⟩
  refine LResY.mk [1] ?_
  simp only [mvcgen_simp,method_specs_simp,seval]
theorem n_copied (e : Ev) (he : EvOK e) : NCon P 169 [.agg (encEv e)] (.agg (rowEv 0 e)) [obI e]:=by
 have he2:=he.2
 refine LCon.new (LCon.of (n:=8) (rs:=[.cell 2 79]) (Is.fn Try.func169) rfl (Is.call Try.call169) Try.results169 Try.ntmps169 ?_) (pure1 (pure_ints _ _))
 simp only [method_specs_simp,seval]
 simp only [method_specs_simp,seval,encEv]
 refine clY.new (n_cloneI e.prev (by omega)) (by simp only [method_specs_simp]) ?_
 simp only [method_specs_simp,seval]
 refine LResY.mk [2] ?_
 simp only [mvcgen_simp,method_specs_simp,seval,rowEv,obI]
theorem c_l02Copy (e : Ev) (he : EvOK e) : Con P 164 [.agg (encEv e)] (.agg (encEv e)):=by
 have he2:=he.2
 refine Con.of (n:=9) (rs:=[.cell 2 79]) (Is.fn Try.func164) rfl (Is.call Try.call164) Try.results164 Try.ntmps164 (encEv_ref1 _ e) ?_
 simp only [method_specs_simp,seval]
 simp only [method_specs_simp,seval,encEv]
 exact ⟨by omega,by omega⟩
theorem zE_ok : EvOK zE:=⟨by decide,by decide⟩
theorem at_ok {g : Gr} (hg : GrOK g) (id : Int) : EvOK ((atE g.events id).getD zE):=by
 cases h : atE g.events id with
 | none=>exact zE_ok
 | some e=>exact hg.1.2 e (List.mem_of_find?_eq_some h)
theorem c_l03Event (g : Gr) (id : Int) (hg : GrOK g) : Con P 203 [.agg (encGr g),.int .i64 id] (.agg (encEv ((atE g.events id).getD zE))):=by
 have hg1:=hg.1.1
 cases hh : Gm.hasId g.events id with
 | false =>
  rw [atE_none hh]
  refine Con.weakR (r:=.agg zEv) ?_ (VLe.agg VLe.zEv) (encEv_ref1 _ zE)
  have ha : atI g.events id = -1:=by unfold atI; rw [hh]; rfl
  refine Con.of (n:=19) (rs:=[.cell 4 79]) (Is.fn Try.func203) rfl (Is.call Try.call203) Try.results203 Try.ntmps203 (by simp only [zEv,method_specs_simp]) ?_
  simp only [method_specs_simp,seval,encGr]
  refine clY.con (c_l03At g.events id (by omega)) (by simp only [method_specs_simp,encGr]) ?_
  simp only [method_specs_simp,seval,encGr,ha,zEv]
 | true =>
  obtain ⟨e,h1,h2⟩:=Gm.fid_get hh
  have ha : atI g.events id = ((Gm.fidE g.events id : Nat) : Int):=by unfold atI; rw [hh]; rfl
  have hn : decide (((Gm.fidE g.events id : Nat) : Int) < 0) = false:=decide_eq_false (by omega)
  have hlt:=Gm.fid_lt hh
  rw [← fid_at hh,h1]
  refine Con.of (n:=19) (rs:=[.cell 4 79]) (Is.fn Try.func203) rfl (Is.call Try.call203) Try.results203 Try.ntmps203 (encEv_ref1 _ e) ?_
  simp only [method_specs_simp,seval,encGr]
  refine clY.con (c_l03At g.events id (by omega)) (by simp only [method_specs_simp,encGr]) ?_
  simp only [method_specs_simp,seval,encGr,ha,hn]
  simp only [method_specs_simp,seval,encGr,h1]
  refine ⟨by omega,by omega,?_⟩
  refine clY.con (c_l02Copy e (hg.1.2 e (ZR h1))) (by simp only [method_specs_simp,encGr]) ?_
  simp only [method_specs_simp,seval,encGr,encEv,Option.getD_some]
end
structure Past (G : List Ob) (N : Nat) : Prop where
 len : G.length = N
 g0 : ∀ L : List Ob,(G ++ L)[N]? = L[0]?
 g : ∀ (L : List Ob) (k : Nat),(G ++ L)[N + k]? = L[k]?
 b0 : ∀ L : List Ob,boxAt (G ++ L) N = boxAt L 0
 b : ∀ (L : List Ob) (k : Nat),boxAt (G ++ L) (N + k) = boxAt L k
 v0 : ∀ L : List Ob,boxLv (G ++ L) N = boxLv L 0
 v : ∀ (L : List Ob) (k : Nat),boxLv (G ++ L) (N + k) = boxLv L k
 a0 : ∀ L : List Ob,arrAt (G ++ L) N = arrAt L 0
 a : ∀ (L : List Ob) (k : Nat),arrAt (G ++ L) (N + k) = arrAt L k
 w0 : ∀ L : List Ob,arrLv (G ++ L) N = arrLv L 0
 w : ∀ (L : List Ob) (k : Nat),arrLv (G ++ L) (N + k) = arrLv L k
 s0 : ∀ (L : List Ob) (o : Ob),(G ++ L).set N o = G ++ L.set 0 o
 s : ∀ (L : List Ob) (k : Nat) (o : Ob),(G ++ L).set (N + k) o = G ++ L.set k o
theorem Past.mk' {G : List Ob} {N : Nat} (h : G.length = N) : Past G N:=by
 have g : ∀ (L : List Ob) (k : Nat),(G ++ L)[N + k]? = L[k]?:=fun L k=>by
  rw [Zg (by omega),h,Zs]
 have g0 : ∀ L : List Ob,(G ++ L)[N]? = L[0]?:=fun L=>g L 0
 have s : ∀ (L : List Ob) (k : Nat) (o : Ob),(G ++ L).set (N + k) o = G ++ L.set k o:=fun L k o=>by
  rw [Yi _ _ (by omega),h,Zs]
 exact ⟨h,g0,g,fun L=>by unfold boxAt; rw [g0],fun L k=>by unfold boxAt; rw [g],fun L=>by unfold boxLv; rw [g0],fun L k=>by unfold boxLv; rw [g],fun L=>by unfold arrAt; rw [g0],fun L k=>by unfold arrAt; rw [g],fun L=>by unfold arrLv; rw [g0],fun L k=>by unfold arrLv; rw [g],fun L o=>s L 0 o,s⟩
def obGb (b : Nat) (g : Gr) : List Ob:=obEb b g.events ++ obEb (b + (g.events.length + 1)) g.parked
theorem obG_ren (b : Nat) (g : Gr) : (obG g).map (Ob.ren (b + ·)) = obGb b g:=by
 unfold obG obGb
 rw [ZQ,obE_ren,obEb_ren]
theorem obGb_len (b : Nat) (g : Gr) : (obGb b g).length = g.events.length + 1 + (g.parked.length + 1):=by simp [obGb,obEb_len]
def LiesG (m : List Ob) (b : Nat) (g : Gr) : Prop:=∀ i ob,(obGb b g)[i]? = some ob → m[b + i]? = some ob
theorem LiesG.mk {A C m : List Ob} {b : Nat} {g : Gr} (h : A.length = b) (em : m = A ++ (obGb b g ++ C)) : LiesG m b g:=fun i ob hi=>by
 subst em; subst h
 rw [Zg (by omega),Zs,Zt (Zi.1 hi).1]
 exact hi
theorem dcv_row {m : List Ob} {q : Nat} {e : Ev} (h : m[q]? = some (obI e)) : (rowEv q e).map (dcv 1 m) = encEv e:=by
 simp only [rowEv,ZB,ZY,dcv,h,obI,encEv,Yk]
 rw [Zr (by simp)]
 congr 9
 simp only [List.map_id',List.map_id_fun']
 try simp
theorem dcv_encG (m : List Ob) (n : Nat) (g : Gr) : dcv (n + 2) m (.agg (encGr g)) = .agg (encGr g):=rfl
theorem dcv_rows {m : List Ob} : ∀ (l : List Ev) (q : Nat),(∀ i e,l[i]? = some e → m[q + i]? = some (obI e)) → (rowsEv q l).map (fun c=>c.map (dcv 1 m)) = l.map encEv
 | [],q,h=>rfl
 | e :: l,q,h=>by
   simp only [rowsEv,ZB]
   rw [dcv_row (q:=q) (h 0 e rfl),dcv_rows l (q + 1) fun i x hi=>by rw [Yj,ZJ 1 i]; exact h (i + 1) x hi]
theorem dcv_evs {m : List Ob} {b : Nat} {l : List Ev} (h : ∀ i ob,(obEb b l)[i]? = some ob → m[b + i]? = some ob) : dcv 2 m (.ar b 0 l.length) = .sl 9 (l.map encEv):=by
 have h0:=h 0 _ rfl
 rw [ZF] at h0
 simp only [dcv,h0,Yk]
 rw [Zr (by rw [rowsEv_len]; exact Zm _)]
 congr 1
 refine dcv_rows l (b + 1) fun i e hi=>?_
 rw [Yj,ZJ 1 i]
 refine h (i + 1) _ ?_
 unfold obEb
 rw [Zh,Zp,hi]; rfl
theorem LiesG.dcv {m : List Ob} {b : Nat} {g : Gr} (h : LiesG m b g) : Go.Pm.dcv 3 m (.agg (grV b g)) = .agg (encGr g):=by
 have h1 : Go.Pm.dcv 2 m (.ar b 0 g.events.length) = .sl 9 (g.events.map encEv):=dcv_evs fun i ob hi=>h i ob (by
  unfold obGb
  rw [Zt (Zi.1 hi).1]; exact hi)
 have h2 : Go.Pm.dcv 2 m (.ar (b + (g.events.length + 1)) 0 g.parked.length) = .sl 9 (g.parked.map encEv):=dcv_evs fun i ob hi=>by
  have:=h (g.events.length + 1 + i) ob (by
   unfold obGb
   rw [Zg (by rw [obEb_len]; omega),obEb_len,Zs]; exact hi)
  rw [← this]; congr 1; omega
 show V.agg [Go.Pm.dcv 2 m (.int .i64 g.room),Go.Pm.dcv 2 m (.ar b 0 g.events.length),Go.Pm.dcv 2 m (.ar (b + (g.events.length + 1)) 0 g.parked.length)] = _
 rw [h1,h2]; rfl
theorem obGb_at (g : Gr) (b : Nat) (L : List Ob) : (obGb b g ++ L)[g.events.length + 1]? = some (.arr true 9 (rowsEv (b + (g.events.length + 1) + 1) g.parked)):=by
 unfold obGb
 rw [Zb,Zg (by rw [obEb_len]; omega),obEb_len,Zu]
 rfl
theorem obGb_one (g : Gr) (a : Ob) (L : List Ob) : (a :: (obGb 1 g ++ L))[1 + (g.events.length + 1)]? = some (.arr true 9 (rowsEv (1 + (g.events.length + 1) + 1) g.parked)):=by
 rw [show 1 + (g.events.length + 1) = (g.events.length + 1) + 1 by omega,Zh,obGb_at]
 rw [show 1 + (g.events.length + 1) = g.events.length + 1 + 1 by omega]
theorem obEb_flat (b : Nat) (l : List Ev) : ∀ ob ∈ obEb b l,ob.flat:=fun ob ho=>by
 rcases Zw.1 ho with rfl | ho
 ·refine ⟨rfl,?_⟩
  have : ∀ q (l : List Ev),Flatss (rowsEv q l):=fun q l=>by
   induction l generalizing q with
   | nil=>trivial
   | cons e l ih=>exact ⟨⟨trivial,trivial,trivial,trivial,trivial,trivial,trivial,trivial,trivial,trivial⟩,ih (q + 1)⟩
  exact this _ l
 ·obtain ⟨e,_,rfl⟩:=ZC.1 ho
  exact ⟨rfl,flat_ints _⟩
theorem obG_flat (g : Gr) : ∀ ob ∈ obG g,ob.flat:=fun ob ho=>by
 rcases ZW.1 ho with ho | ho
 ·exact obE_flat _ ob ho
 ·exact obEb_flat _ _ ob ho
theorem grV_flat (b : Nat) (g : Gr) : Flat (.agg (grV b g)):=⟨trivial,trivial,trivial,trivial⟩
theorem obG_alive (g : Gr) : ∀ ob ∈ obG g,ob.alive = true:=fun ob ho=>by
 rcases ZW.1 ho with ho | ho
 ·exact obE_alive _ ob ho
 ·rcases Zw.1 ho with rfl | ho
  ·rfl
  ·obtain ⟨e,_,rfl⟩:=ZC.1 ho
   rfl
theorem clY.segG {P : Program} {f : FuncId} {A L : List Ob} {rest : List V} {g g' : Gr} {r : V} {K KL : V → List Ob → Prop} (h : LCon P f (.agg (grV 0 g) :: rest) (obG g) r (obG g')) (hl : (obG g').length = (obG g).length)
  (hr : Ref (fun _=>False) r) (hrest : Refs (fun _=>False) rest) (hcv : ∀ m,convs m rest = rest)
  (k : KL r (A ++ (obGb A.length g' ++ L))) : @clY P (.fn f [] []) (.agg (grV A.length g) :: rest) (A ++ (obGb A.length g ++ L)) ⟨K,KL⟩:=by
 refine clY.seg (A:=A) (B:=obG g) (B':=obG g') (C:=L) h hl (fun ob ho=>⟨obG_refs g ob ho,obG_alive g ob ho⟩) (fun ob ho=>by rw [← hl]; exact obG_refs g' ob ho) ⟨?_,Refs.mono (fun _ h=>h.elim) _ hrest⟩ (Ref.mono (fun _ h=>h.elim) _ hr) ?_ ?_ ?_ ?_
 ·rw [obG_len]
  exact ⟨trivial,by show 0 < _; omega,by show 0 + (g.events.length + 1) < _; omega,trivial⟩
 ·rw [obG_ren,Zb]
 ·simp only [grV,rens,V.ren,rens_pure _ hrest,Za,Zj,ZF,ZM]
 ·have h1 : (A ++ (obGb A.length g ++ L))[A.length]? = some (.arr true 9 (rowsEv (A.length + 1) g.events)):=by
   rw [Zg (Zm _),Zu]; rfl
  have h2 : (A ++ (obGb A.length g ++ L))[A.length + (g.events.length + 1)]? = some (.arr true 9 (rowsEv (A.length + (g.events.length + 1) + 1) g.parked)):=by
   rw [Zg (by omega),Zs]
   unfold obGb
   rw [Zb,Zg (by rw [obEb_len]; omega),obEb_len,Zu]; rfl
  simp only [Za,Zj,convs,hcv,grV,conv,h1,h2]
 ·rw [V.ren_pure _ hr,obG_ren,Zb]; exact k
theorem clY.segG1 {P : Program} {f : FuncId} {a : Ob} {G L : List Ob} {rest : List V} {g g' : Gr} {r : V} {K KL : V → List Ob → Prop} (hG : G = obGb 1 g) (h : LCon P f (.agg (grV 0 g) :: rest) (obG g) r (obG g')) (hl : (obG g').length = (obG g).length)
  (hr : Ref (fun _=>False) r) (hrest : Refs (fun _=>False) rest) (hcv : ∀ m,convs m rest = rest)
  (k : KL r (a :: (obGb 1 g' ++ L))) : @clY P (.fn f [] []) (.agg (grV 1 g) :: rest) (a :: (G ++ L)) ⟨K,KL⟩:=by
 subst hG
 exact clY.segG (A:=[a]) h hl hr hrest hcv k
theorem mGr_len (k : Int) (g : Gr) : (obG (mGr k g)).length = (obG g).length:=by rw [obG_len,obG_len]; simp only [mGr,mEvs_len]
@[method_specs_simp] theorem refss_nil (ok : Nat → Prop) : Refss ok [] = True:=eq_true trivial
theorem right_in {g : Gr} (hr : Gm.grRight g = true) : ∀ e ∈ g.events,Gm.allIn g.events e = true:=fun e he=>by
 simp only [Gm.grRight,ZS,Yl] at hr
 exact (hr.2.2.2.1 e he).1
theorem right_pos {g : Gr} (hr : Gm.grRight g = true) : ∀ x ∈ Gm.depthsE g.events,1 ≤ x:=fun x hx=>by
 have h0:=(Gm.depths_ok g.events).nn x hx
 simp only [Gm.grRight,ZS,Yl] at hr
 have:=hr.2.2.2.2.2
 rw [Gm.allPos,Yl] at this
 have:=this x hx
 have hne : x ≠ 0:=by simpa using this
 omega
end Go.Proofs.Ytdkgiboofhlilaa
end
section
section
namespace Go.Pm
open Go.RowKit Go.Sort
section
variable {P : Program} {f c : FuncId}
structure El {β : Type} (encB : β → List V) (l : List β) (c0 : Cx) where
 b : β
 row : List Value
 mem : b ∈ l
 rv : RVs c0 (encB b) row
def KSort (P : Program) (f : FuncId) (k : Nat) : Prop:=∀ {α : Type} [Inhabited α] (enc : α → List Value) (hk : ∀ x,(enc x).length = k) (h1 : ∀ x,∀ v ∈ enc x,v.oneCell' = true) (cf : α → α → Int) (hO : SWO (Go.Proofs.ltOf cf)) (g : Nat) (cb : Array Value) (blk off cap : Nat) (d : Array α) (w : World)
  (eg : ∀ args w,(callFunc g args).run P w = .ok (.enter g args) w) (hcmp : Go.Proofs.CmpLays P g cb enc k cf blk off d.size w) (hH : HoldsK enc k w blk off d) (hblk : blk < w.heap.size) (hsz : d.size < 4611686018427387904),
  Calls P f #[.slice (some ⟨blk,off,none⟩) d.size cap,.func (.func g) #[] cb] w fun e w'=>e = .returned (.tuple #[]) ∧ ∃ d' n os,PermIn 0 d.size d d' ∧ SortedIn (Go.Proofs.ltOf cf) 0 d.size d' ∧ w' = Go.Proofs.sortWorldK enc k w blk off n d' os
def KSort0 (P : Program) (f : FuncId) : Prop:=∀ (p : Option Addr) (cap : Nat) (fv : Value) (w : World),Calls P f #[.slice p 0 cap,fv] w fun e w'=>e = .returned (.tuple #[]) ∧ w' = w
def KSortI (P : Program) (f : FuncId) : Prop:=∀ (blk off cap : Nat) (zs : List Int) (w : World),Holds (Value.int .i64) w blk off zs.toArray → blk < w.heap.size → zs.length < 4611686018427387904 →
  Calls P f #[.slice (some ⟨blk,off,none⟩) zs.length cap] w fun e w'=>e = .returned (.tuple #[]) ∧ ∃ n os,w' = Go.Sort.grow (putRow (Value.int .i64) (Go.Sort.ahead w n) blk off (zs.mergeSort fun x y=>decide (x ≤ y)).toArray) os
def KSortI0 (P : Program) (f : FuncId) : Prop:=∀ (p : Option Addr) (cap : Nat) (w : World),Calls P f #[.slice p 0 cap] w fun e w'=>e = .returned (.tuple #[]) ∧ w' = w
end
end Go.Pm
end
end
section
namespace Go.Proofs.Ytdkgiboofhlilaa
open Go.Pm
def laySF210_ren : Go.Shelf.Ren:=⟨fun | 6=>210 | 15=>239 | 14=>238 | 28=>258 | 29=>259 | 20=>250 | 21=>251 | 22=>252 | 23=>253 | 24=>254 | 25=>255 | 26=>256 | 27=>257 | 46=>265 | 47=>266 | 48=>267 | 49=>268 | 50=>269 | 57=>281 | n=>n,fun | 22=>50 | 24=>98 | 25=>217 | 3=>3 | 39=>172 | 0=>0 | 53=>222 | 55=>169 | 4=>4 | 46=>248 | 45=>247 | 50=>206 | 5=>5 | 9=>9 | 66=>259 | 70=>263 | 76=>272 | 77=>273 | n=>n,fun | n=>n⟩
def layS_ren : Go.Shelf.Ren:=⟨fun | 5=>241 | 8=>239 | 7=>260 | 19=>258 | 20=>259 | 10=>270 | 11=>271 | 12=>272 | 13=>273 | 14=>274 | 15=>275 | 16=>276 | 17=>277 | 18=>278 | 30=>282 | 31=>266 | 32=>267 | 33=>283 | 34=>284 | 35=>245 | 40=>286 | n=>n,fun | 23=>48 | 25=>2 | 3=>3 | 32=>172 | 22=>48 | 0=>0 | 44=>222 | 46=>169 | 4=>4 | 36=>248 | 35=>247 | 41=>206 | 5=>5 | 9=>9 | 53=>259 | 57=>263 | 63=>272 | 64=>273 | n=>n,fun | n=>n⟩
def lessI (l : List Int) (n : Int) : Nat:=(l.takeWhile fun y=>decide (y < n)).length
def setI (l : List Int) (n : Int) : List Int:=if l[lessI l n]? = some n then l else l.take (lessI l n) ++ n :: l.drop (lessI l n)
def ddF : Option Int → List Int → List Int
 | _,[]=>[]
 | p,x :: l=>if p = some x then ddF p l else x :: ddF (some x) l
def dd (l : List Int) : List Int:=ddF none l
def sqz (W l : List Int) : List Int:=W ++ l.drop W.length
def padZ (l : List Int) (n : Nat) : List Int:=l ++ ZO (n - l.length) 0
section
variable {P : Program} [Is P]
def srtI (l : List Int) : List Int:=l.mergeSort fun x y=>decide (x ≤ y)
end
def LtI (x y : Int) : Prop:=x < y
def Rise (l : List Int) : Prop:=l.Pairwise LtI
theorem Rise.nodup {l : List Int} (h : Rise l) : l.Nodup:=List.Pairwise.imp (fun {x y} (h : x < y) e=>by subst e; omega) h
end Go.Proofs.Ytdkgiboofhlilaa
end
section
section
namespace Go.Pm
open Go.RowKit
inductive RdB {α : Type} (B : Nat → Prop) : Sem α → Prop
 | pure (a : α) : RdB B (.pure a)
 | load {m : Mode} {a : Addr} {k : Value → Sem α} : B a.block → (∀ v,RdB B (k v)) → RdB B (.load m a k)
 | shape {r : Nat} {k : Option (TypeId × Nat) → Sem α} : B r → (∀ v,RdB B (k v)) → RdB B (.shape r k)
 | program {k : Program → Sem α} : (∀ p,RdB B (k p)) → RdB B (.program k)
 | obj {r : Nat} {k : Obj → Sem α} : B r → (∀ o,RdB B (k o)) → RdB B (.getObj r k)
 | halt (h : Halt) : RdB B (.halt h)
 | never {s : Sem α} (h : ∀ (P : Program) (w : World) (x : α) (w1 : World),s.run P w ≠ .ok x w1) : RdB B s
theorem RdB.bind {α β : Type} {B : Nat → Prop} {s : Sem α} {f : α → Sem β} (hs : RdB B s) (hf : ∀ a,RdB B (f a)) : RdB B (s.bind f):=by
 induction hs with
 | pure a=>exact hf a
 | load hb _ ih=>exact .load hb fun v=>ih v
 | shape hb _ ih=>exact .shape hb fun v=>ih v
 | program _ ih=>exact .program fun v=>ih v
 | obj hb _ ih=>exact .obj hb fun v=>ih v
 | halt h=>exact .halt h
 | @never s h =>
  refine .never fun P w x w1 e=>?_
  have e : (s >>= f).run P w = .ok x w1:=e
  rw [Sem.run_bind] at e
  cases hs : s.run P w with
  | ok y w2=>exact h P w y w2 hs
  | halt y w2=>rw [hs] at e; cases e
def SameB (w w' : World) (b : Nat) : Prop:=w'.heap[b]? = w.heap[b]? ∧ ∃ us e fr,w.heap[b]? = some (.cells us e fr)
theorem RdB.run {α : Type} {B : Nat → Prop} {s : Sem α} (hs : RdB B s) {P : Program} {w w' w1 : World} {x : α} (hk : ∀ b,B b → SameB w w' b) (h : s.run P w = .ok x w1) : w1 = w ∧ s.run P w' = .ok x w':=by
 induction hs with
 | pure a =>
  simp only [Sem.run] at h ⊢
  injection h with h1 h2
  exact ⟨h2.symm,by rw [h1]⟩
 | @load m a k hb _ ih =>
  obtain ⟨e1,us,el,fr,e2⟩:=hk _ hb
  have hc : w'.cell? a = w.cell? a:=by unfold World.cell?; rw [e1]
  simp only [Sem.run] at h ⊢
  rw [hc]
  cases hv : w.cell? a with
  | some v=>rw [hv] at h; exact ih v h
  | none =>
   exfalso
   rw [hv] at h
   simp only at h
   unfold World.farLoad at h
   rw [e2] at h
   cases h
 | @shape r k hb _ ih =>
  simp only [Sem.run] at h ⊢
  have : w'.shape? r = w.shape? r:=by unfold World.shape?; rw [(hk _ hb).1]
  rw [this]
  exact ih _ h
 | @program k _ ih =>
  simp only [Sem.run] at h ⊢
  exact ih _ h
 | @obj r k hb _ ih =>
  simp only [Sem.run] at h ⊢
  rw [(hk _ hb).1]
  split at h
  ·cases h
  ·rename_i o hn ho
   exact ih _ h
  ·cases h
 | halt e=>simp only [Sem.run] at h; cases h
 | never hn=>exact absurd h (hn _ _ _ _)
section
variable {B : Nat → Prop}
def lookP (B : Nat → Prop) (ev : Operand → Value) : Op → Prop
 | .move _=>True
 | .extract _ _=>True
 | .indexAddr _ _ _=>True
 | .nilCheck x=>∃ a,ev x = .pointer (some a)
 | .fieldAddr _ x _=>∃ a,ev x = .pointer (some a) ∧ B a.block
 | .load _ x=>∃ a,ev x = .pointer (some a) ∧ B a.block
 | _=>False
end
def frzX : V → Prop
 | .fptr cs _=>0 < cs.length
 | .sptr sz xs i _=>0 < sz ∧ i < xs.length
 | _=>False
def opX (ev : Operand → V) : Op → Prop
 | .move _=>True
 | .extract _ _=>True
 | .indexAddr _ _ _=>True
 | .nilCheck x=>frzX (ev x)
 | .fieldAddr _ x _=>frzX (ev x)
 | .load _ x=>frzX (ev x)
 | _=>False
def FLi (P : Program) : List Oper → St → Prop
 | [],st=>st.m = []
 | o :: os,st=>opX (St.ev st.t) o.op ∧ T1 P o st (fun st'=>FLi P os st')
def pickM : Option Oper → List Oper → List Oper
 | some o,os=>o :: os
 | none,os=>os
def pickO (os : List Oper) : List Nat → List Oper
 | []=>[]
 | f :: fl=>pickM os[f]? (pickO os fl)
def FL (P : Program) (ops : Array Oper) (fl : List Nat) (t : List V) : Prop:=FLi P (pickO ops.toList fl) ⟨t,[],[]⟩
def fltS (ops : Array Oper) : List Nat → List Nat → Bool
 | _,[]=>true
 | done,f :: fs=>!(fs.contains f) && fltS ops (f :: done) fs && (match ops[f]? with
   | some o=>o.guard.isNone && (o.after.toList.all fun e=>!Region.binds .any e || done.contains e.on) && ((List.range ops.size).all fun j=>ZK j f || done.contains j || (match ops[j]? with
     | some oj=>(oj.after.toList.any fun e=>Region.binds .any e && ZK e.on f) || o.apart ops oj
     | none=>true))
   | none=>false)
section
variable {P : Program} {ops : Array Oper} {K : St → Prop} {w0 : World} {E Zo : Nat → Prop} {gh : List Value} {Q : Exit → Act → World → Prop}
def WA (P : Program) (ops : Array Oper) (st : St) (Q : Exit → St → Prop) : Prop:=∀ (w0 : World) (E Zo : Nat → Prop) (gh : List Value) (a : Act) (w : World),Rel w0 E Zo gh st a w →
 wpAny P .any ops (fun e a' w'=>∃ st',Q e st' ∧ Rel w0 E Zo gh st' a' w') ops.size (Array.replicate ops.size false) a { w with drawn:=w.drawn + 1 }
def renO (inv : List Nat) (o : Oper) : Oper:=⟨o.dst,o.op,o.type,o.pos,o.after.map (fun e=>⟨inv.getD e.on inv.length,e.ground⟩),o.guard⟩
def permO (ord inv : List Nat) (ops : Array Oper) : Array Oper:=((pickO ops.toList ord).map (renO inv)).toArray
def permB (ord inv : List Nat) (ops : Array Oper) : Bool:=ZK ord.length ops.size && ZK inv.length ops.size && ((List.range ops.size).all fun i=>Nat.blt (ord.getD i ops.size) ops.size && Nat.blt (inv.getD i ops.size) ops.size && ZK (ord.getD (inv.getD i ops.size) ops.size) i && ZK (inv.getD (ord.getD i ops.size) ops.size) i) && ops.toList.all fun o=>o.guard.isNone
structure PermO (ord inv : List Nat) (ops ops' : Array Oper) : Prop where
 io : ∀ i,i < ops.size → inv.getD i ops.size < ops.size ∧ ord.getD (inv.getD i ops.size) ops.size = i
 oi : ∀ i,i < ops.size → ord.getD i ops.size < ops.size ∧ inv.getD (ord.getD i ops.size) ops.size = i
 li : inv.length = ops.size
 op : ∀ i o,ops[i]? = some o → o.guard = none ∧ ops'[inv.getD i ops.size]? = some (renO inv o)
 sz : ops'.size = ops.size
end
end Go.Pm
end
section
namespace Go.Pm
open Go.RowKit
end Go.Pm
end
end
section
namespace Go.Proofs.Ytdkgiboofhlilaa
open Go.Pm
open Go.Gm (Ev Gr)
def goneI (g : Gr) (id : Int) : Bool:=!Gm.hasId g.parked id && !Gm.hasId g.events id
def prevsL (l : List Ev) : List Int:=(l.map (·.prev)).flatten
def missL (g : Gr) : List Int:=(prevsL g.parked).filter (goneI g)
def missA (g : Gr) (i : Nat) : List Int:=(prevsL (g.parked.take i)).filter (goneI g)
def missB (g : Gr) (i : Nat) (ps : List Int) (j : Nat) : List Int:=missA g i ++ (ps.take j).filter (goneI g)
end Go.Proofs.Ytdkgiboofhlilaa
end
section
namespace Go.Proofs.Ytdkgiboofhlilaa
open Go.Pm
structure Spn where
 lo : Int
 hi : Int
def encSn (x : Spn) : List V:=[.int .i64 x.lo,.int .i64 x.hi]
theorem encSn_ref1 (ok : Nat → Prop) (x : Spn) : Refs ok (encSn x):=⟨trivial,trivial,trivial⟩
@[method_specs_simp] theorem encSn_refs (ok : Nat → Prop) (xs : List Spn) : Refss ok (xs.map encSn) = True:=eq_true (Refss_map fun a=>encSn_ref1 ok a)
@[method_specs_simp] theorem encSn_rens (ρ : Nat → Nat) (xs : List Spn) : renss ρ (xs.map encSn) = xs.map encSn:=renss_map fun a=>encSn_ref1 _ a
theorem pure_spns (lv : Bool) (xs : List Spn) : (Ob.arr lv 2 (xs.map encSn)).pure:=Refss_map fun a=>encSn_ref1 _ a
def mSpn (k : Int) : Spn:=⟨k,k + 1⟩
def mSpns : Int → Nat → List Spn
 | _,0=>[]
 | k,n + 1=>mSpn k :: mSpns (k + 2) n
theorem mSpns_succ : ∀ (n : Nat) (k : Int),mSpns k (n + 1) = mSpns k n ++ [mSpn (k + 2 * n)]
 | 0,k=>by simp [mSpns]
 | n + 1,k=>by
   rw [mSpns,mSpns_succ n,mSpns,Zc]
   congr 3
   have : ((n + 1 : Nat) : Int) = n + 1:=rfl
   rw [this]
   congr 1
   omega
section
variable {P : Program} [Is P]
theorem c_eqSpan (x : Spn) : Con P 143 [.agg (encSn x),.agg (encSn x)] (.bool true):=by
 have e5 : ∀ a : Int,(a != a) = false:=fun a=>by simp
 refine Con.of (n:=15) (rs:=[.tmp 4]) (Is.fn Try.func143) rfl (Is.call Try.call143) Try.results143 Try.ntmps143 trivial ?_
 simp only [method_specs_simp,seval]
 simp only [method_specs_simp,seval,encSn,e5]
theorem c_eqSpanS (xs : List Spn) (hx : xs.length < 2 ^ 62) : Con P 58 [.sl 2 (xs.map encSn),.sl 2 (xs.map encSn)] (.bool true):=by
 have e5 : ∀ a : Int,(a != a) = false:=fun a=>by simp
 refine Con.of (n:=27) (rs:=[.tmp 4]) (Is.fn Try.func58) rfl (Is.call Try.call58) Try.results58 Try.ntmps58 trivial ?_
 simp only [method_specs_simp,seval]
 simp only [method_specs_simp,seval,e5]
 refine SW.while (A:=Nat) (fun k=>⟨pad 27 [.sl 2 (xs.map encSn),.sl 2 (xs.map encSn),.junk,.junk,.bool false,.int .i64 k],[],[]⟩) (fun k=>xs.length - k) (fun k=>k ≤ xs.length) 0 [] (Zn _) ?_ ?_
 ·simp only [mvcgen_simp,method_specs_simp,seval]
 ·intro k hk
  refine CW.sound ?_
  simp only [method_specs_simp,seval]
  refine gB_split (fun h=>?_) (fun h=>?_)
  ·simp only [decide_eq_true_eq,Ze] at h
   have hxk : xs[k]? = some xs[k]:=Zf h
   generalize xs[k] = x at hxk
   simp only [Zp,hxk,method_specs_simp,seval]
   refine ⟨by kernel_rfl,by omega,by omega,by simp [encSn],by omega,by omega,by simp [encSn],?_⟩
   rw [show ZA 2 (encSn x) = encSn x from rfl]
   refine clY.con (c_eqSpan x) (by simp only [method_specs_simp,encSn]) ?_
   simp only [method_specs_simp,seval]
   rw [wrap_id (by omega) (by omega)]
   refine Again.mk (k + 1) [] h (Zk h (Zl _)) ?_
   simp only [mvcgen_simp,method_specs_simp,seval]
  ·trivial
theorem n_markSpanS (xs : List Spn) (k : Int) (h0 : 0 ≤ k) (h1 : k < 2 ^ 50) (hx : xs.length < 2 ^ 50) : LCon P 59 [.ar 0 0 xs.length,.int .i64 k] [.arr true 2 (xs.map encSn)] (.int .i64 (k + 2 * xs.length)) [.arr true 2 ((mSpns k xs.length).map encSn)]:=by
 refine LCon.of (n:=27) (rs:=[.tmp 4]) (Is.fn Try.func59) rfl (Is.call Try.call59) Try.results59 Try.ntmps59 ?_
 simp only [method_specs_simp,seval]
 refine SW.while (A:=Nat × List Spn) (fun a=>⟨pad 27 [.ar 0 0 xs.length,.int .i64 (k + 2 * a.1),.junk,.junk,.junk,.int .i64 a.1],[.arr true 2 (a.2.map encSn)],[.ar 0 0 xs.length,.eptr 0 1 0]⟩) (fun a=>xs.length - a.1)
   (fun a=>a.1 ≤ xs.length ∧ a.2.length = xs.length ∧ a.2.take a.1 = mSpns k a.1) (0,xs) [0] ⟨Zn _,rfl,rfl⟩ ?_ ?_
 ·rw [show k + 2 * ((0 : Nat) : Int) = k by omega]
  simp only [mvcgen_simp,method_specs_simp,seval]
 ·rintro ⟨i,ys⟩ ⟨hk,hy,hr⟩
  simp only at hk hy hr
  refine CW.sound ?_
  simp only [method_specs_simp,seval]
  refine gB_split (fun h=>?_) (fun h=>?_)
  ·simp only [decide_eq_true_eq,Ze] at h
   have hl : i < (ys.map encSn).length:=by simp; omega
   obtain ⟨y,hyi⟩ : ∃ y,ys[i]? = some y:=⟨ys[i],Zf (by omega)⟩
   have eg : (ys.map encSn).getD i [] = encSn y:=by rw [Zz,Zp,hyi]; rfl
   have e1 : IntKind.i64.wrap (k + 2 * i + 1) = k + 2 * i + 1:=wrap_id (by omega) (by omega)
   have e3 : IntKind.i64.wrap (k + 2 * i + 1 + 1) = k + 2 * ((i + 1 : Nat) : Int):=by rw [wrap_id (by omega) (by omega)]; omega
   have e4 : IntKind.i64.wrap ((i : Int) + 1) = ((i + 1 : Nat) : Int):=by rw [wrap_id (by omega) (by omega)]; rfl
   simp only [e1,e3,e4,eg,encSn,Ya,getD_set' hl,method_specs_simp,seval]
   refine ⟨by omega,by omega,by omega,by omega,by omega,by simp; omega,?_⟩
   refine Again.mk (i + 1,ys.set i (mSpn (k + 2 * i))) [0] ⟨h,by simpa using hy,?_⟩ (Zk h (Zl _)) ?_
   ·simp only
    rw [take_set' (by omega),hr,mSpns_succ]
   ·have e : [V.int IntKind.i64 (k + 2 * (i : Int)),V.int IntKind.i64 (k + 2 * (i : Int) + 1)] = encSn (mSpn (k + 2 * i)):=rfl
    rw [e,← List.map_set]
    simp only [mvcgen_simp,method_specs_simp,seval]
  ·simp only [decide_eq_false_iff_not,Zd,Ze] at h
   have hi : i = xs.length:=by omega
   subst hi
   have e : ys = mSpns k xs.length:=by rw [← hr,Zr (by omega)]
   subst e
   refine LResY.mk [0] ?_
   simp only [mvcgen_simp,method_specs_simp,seval]
end
end Go.Proofs.Ytdkgiboofhlilaa
end
section
namespace Go.Proofs.Ytdkgiboofhlilaa
open Go.Pm
open Go.Gm (Ev Gr)
def stepN (o : List Spn) (n : Int) : List Spn:=match o.getLast? with
 | some x=>if IntKind.i64.wrap (x.hi + 1) == n then o.dropLast ++ [⟨x.lo,n⟩] else o ++ [⟨n,n⟩]
 | none=>[⟨n,n⟩]
def spnL (l : List Int) : List Spn:=l.foldl stepN []
section
variable {P : Program} [Is P]
def idsG (g : Gr) : List Int:=(g.events ++ g.parked).map (·.id)
def hvS (g : Gr) : List Spn:=spnL (dd (srtI (idsG g)))
theorem right_few {g : Gr} (hr : Gm.grRight g = true) : g.events.length ≤ 60 ∧ g.parked.length ≤ 20:=by
 simp only [Gm.grRight,Gm.rowR,ZS,decide_eq_true_eq] at hr
 exact ⟨by have:=hr.2.1.1; omega,by have:=hr.2.2.1.1; omega⟩
end
def nearS (p : Option Spn) (x : Spn) : Bool:=match p with
 | none=>false
 | some y=>decide (x.lo < IntKind.i64.wrap (y.hi + 2))
def badS (p : Option Spn) (x : Spn) : Bool:=(!Gm.isB x.lo 1 1000000 || !Gm.isB x.hi x.lo 1000000) || nearS p x
def spGo (p : Option Spn) : List Spn → Bool
 | []=>true
 | x :: xs=>!badS p x && spGo (some x) xs
def pvS (l : List Spn) (k : Nat) : Option Spn:=if k = 0 then none else l[k - 1]?
theorem pvS_next {l : List Spn} {k : Nat} {x : Spn} (h : l[k]? = some x) : pvS l (k + 1) = some x:=by unfold pvS; rw [if_neg (ZD k)]; exact h
def spR (l : List Spn) : Bool:=spGo none l && decide (l.length ≤ 400)
def inS (l : List Spn) (id : Int) : Bool:=l.any fun x=>Gm.isB id x.lo x.hi
section
variable {P : Program} [Is P]
theorem c_SpansRight (l : List Spn) (hl : l.length * 16 ≤ 2 ^ 47) : Con P 141 [.sl 2 (l.map encSn)] (.bool (spR l)):=by
 unfold spR
 refine Con.of (n:=44) (rs:=[.tmp 2]) (Is.fn Try.func141) rfl (Is.call Try.call141) Try.results141 Try.ntmps141 trivial ?_
 simp only [method_specs_simp,seval]
 refine SW.while (A:=Nat) (fun k=>⟨pad 44 [.sl 2 (l.map encSn),.junk,.bool false,.junk,.junk,.sl 2 (l.map encSn),.int .i64 l.length,.int .i64 k],[],[]⟩) (fun k=>l.length - k) (fun k=>k ≤ l.length ∧ spGo none l = spGo (pvS l k) (l.drop k)) 0 [] ⟨Zn _,rfl⟩ ?_ ?_
 ·simp only [mvcgen_simp,method_specs_simp,seval]
 ·rintro k ⟨hk,hr⟩
  have w1 : IntKind.i64.wrap ((k : Int) + 1) = ((k + 1 : Nat) : Int):=wadd1 k (by omega)
  rw [hr]
  refine CW.sound ?_
  simp only [method_specs_simp,seval]
  refine gB_split (fun h=>?_) (fun h=>?_)
  ·simp only [decide_eq_true_eq,Ze] at h
   obtain ⟨x,hx⟩ : ∃ x,l[k]? = some x:=⟨_,Zf h⟩
   have hpn:=pvS_next hx
   rw [drop_cons hx,spGo]
   simp only [method_specs_simp,seval,hx,encSn]
   refine ⟨by omega,by omega,?_⟩
   refine ⟨by kernel_rfl,?_⟩
   refine clY.con (c_isId x.lo) (by simp only [method_specs_simp]) ?_
   simp only [method_specs_simp,seval]
   cases c1 : Gm.isB x.lo 1 1000000 with
   | false =>
    have hb : badS (pvS l k) x = true:=by unfold badS; rw [c1]; rfl
    rw [hb]
    simp only [method_specs_simp,seval,Zd,ZE]
   | true =>
    simp only [method_specs_simp,seval]
    refine clY.con (c_in x.hi x.lo 1000000) (by simp only [method_specs_simp]) ?_
    simp only [method_specs_simp,seval]
    cases c2 : Gm.isB x.hi x.lo 1000000 with
    | false =>
     have hb : badS (pvS l k) x = true:=by unfold badS; rw [c1,c2]; rfl
     rw [hb]
     simp only [method_specs_simp,seval,Zd,ZE]
    | true =>
     have hb : badS (pvS l k) x = nearS (pvS l k) x:=by unfold badS; rw [c1,c2]; rfl
     rw [hb]
     cases k with
     | zero =>
      have hn : nearS (pvS l 0) x = false:=rfl
      have d0 : decide (((0 : Nat) : Int) > 0) = false:=rfl
      rw [hn]
      simp only [method_specs_simp,seval,d0,Yc,Zx]
      refine Again.mk (0 + 1) [] ⟨h,by rw [hpn]⟩ (Zk h (Zl _)) ?_
      simp only [mvcgen_simp,method_specs_simp,seval,w1]
      try rfl
     | succ j =>
      obtain ⟨y,hy⟩ : ∃ y,l[j]? = some y:=⟨_,Zf (by omega)⟩
      have hpv : pvS l (j + 1) = some y:=pvS_next hy
      have d0 : decide ((j : Int) + 1 > 0) = true:=decide_eq_true (by omega)
      have w2 : IntKind.i64.wrap ((j : Int) + 1 - 1) = (j : Int):=by rw [wrap_id (by omega) (by omega)]; omega
      have w3 : IntKind.i64.wrap ((j : Int) + 1 + 1) = (j : Int) + 1 + 1:=wrap_id (by omega) (by omega)
      have hn : nearS (pvS l (j + 1)) x = decide (x.lo < IntKind.i64.wrap (y.hi + 2)):=by rw [hpv]; rfl
      rw [hn]
      simp only [method_specs_simp,seval,d0,w2,hy,encSn]
      refine ⟨by omega,by omega,?_⟩
      cases c3 : decide (x.lo < IntKind.i64.wrap (y.hi + 2)) with
      | true =>
       simp only [method_specs_simp,seval,Zd,ZE]
      | false =>
       simp only [method_specs_simp,seval,Yc,Zx]
       refine Again.mk (j + 1 + 1) [] ⟨h,by rw [hpn]⟩ (Zk h (Zl _)) ?_
       simp only [mvcgen_simp,method_specs_simp,seval,w3]
  ·simp only [decide_eq_false_iff_not,Zd,Ze] at h
   rw [ZN (by omega),spGo,Zx]
   have e : decide ((l.length : Int) ≤ 400) = decide (l.length ≤ 400):=by
    by_cases q : l.length ≤ 400
    ·rw [decide_eq_true q,decide_eq_true (by omega)]
    ·rw [decide_eq_false q,decide_eq_false (by omega)]
   simp only [method_specs_simp,seval,e]
theorem c_sSpansRight (l : List Spn) (hl : l.length * 16 ≤ 2 ^ 47) : Con P 138 [.sl 2 (l.map encSn)] (.bool (spR l)):=by
 unfold spR
 refine Con.of (n:=53) (rs:=[.tmp 2]) (Is.fn Try.func138) rfl (Is.call Try.call138) Try.results138 Try.ntmps138 trivial ?_
 simp only [method_specs_simp,seval]
 cases hq : decide ((l.length : Int) > 400) with
 | true =>
  have : decide (l.length ≤ 400) = false:=by have:=of_decide_eq_true hq; exact decide_eq_false (by omega)
  rw [this,Bool.and_false]
  simp only [method_specs_simp,seval]
 | false =>
  have : decide (l.length ≤ 400) = true:=by have:=of_decide_eq_false hq; exact decide_eq_true (by omega)
  rw [this,Bool.and_true]
  simp only [method_specs_simp,seval]
  refine SW.while (A:=Nat) (fun k=>⟨pad 53 [.sl 2 (l.map encSn),.junk,.bool false,.int .i64 k],[],[]⟩) (fun k=>l.length - k) (fun k=>k ≤ l.length ∧ spGo none l = spGo (pvS l k) (l.drop k)) 0 [] ⟨Zn _,rfl⟩ ?_ ?_
  ·simp only [mvcgen_simp,method_specs_simp,seval]
  ·rintro k ⟨hk,hr⟩
   have w1 : IntKind.i64.wrap ((k : Int) + 1) = ((k + 1 : Nat) : Int):=wadd1 k (by omega)
   rw [hr]
   refine CW.sound ?_
   simp only [method_specs_simp,seval]
   refine gB_split (fun h=>?_) (fun h=>?_)
   ·simp only [decide_eq_true_eq,Ze] at h
    obtain ⟨x,hx⟩ : ∃ x,l[k]? = some x:=⟨_,Zf h⟩
    have hpn:=pvS_next hx
    rw [drop_cons hx,spGo]
    simp only [method_specs_simp,seval,hx,encSn]
    refine ⟨by kernel_rfl,by omega,by omega,?_⟩
    refine clY.con (c_l02Id x.lo) (by simp only [method_specs_simp]) ?_
    simp only [method_specs_simp,seval]
    cases c1 : Gm.isB x.lo 1 1000000 with
    | false =>
     have hb : badS (pvS l k) x = true:=by unfold badS; rw [c1]; rfl
     rw [hb]
     simp only [method_specs_simp,seval,Zd,ZE]
    | true =>
     simp only [method_specs_simp,seval]
     simp only [method_specs_simp,seval,hx,encSn]
     refine ⟨by omega,by omega,by omega,by omega,?_⟩
     refine clY.con (c_l02Is x.hi x.lo 1000000) (by simp only [method_specs_simp]) ?_
     simp only [method_specs_simp,seval]
     cases c2 : Gm.isB x.hi x.lo 1000000 with
     | false =>
      have hb : badS (pvS l k) x = true:=by unfold badS; rw [c1,c2]; rfl
      rw [hb]
      simp only [method_specs_simp,seval,Zd,ZE]
     | true =>
      have hb : badS (pvS l k) x = nearS (pvS l k) x:=by unfold badS; rw [c1,c2]; rfl
      rw [hb]
      cases k with
      | zero =>
       have hn : nearS (pvS l 0) x = false:=rfl
       have d0 : decide (((0 : Nat) : Int) > 0) = false:=rfl
       rw [hn]
       simp only [method_specs_simp,seval,d0,Yc,Zx]
       refine Again.mk (0 + 1) [] ⟨h,by rw [hpn]⟩ (Zk h (Zl _)) ?_
       simp only [mvcgen_simp,method_specs_simp,seval,w1]
       try rfl
      | succ j =>
       obtain ⟨y,hy⟩ : ∃ y,l[j]? = some y:=⟨_,Zf (by omega)⟩
       have hpv : pvS l (j + 1) = some y:=pvS_next hy
       have d0 : decide ((j : Int) + 1 > 0) = true:=decide_eq_true (by omega)
       have w2 : IntKind.i64.wrap ((j : Int) + 1 - 1) = (j : Int):=by rw [wrap_id (by omega) (by omega)]; omega
       have w3 : IntKind.i64.wrap ((j : Int) + 1 + 1) = (j : Int) + 1 + 1:=wrap_id (by omega) (by omega)
       have hn : nearS (pvS l (j + 1)) x = decide (x.lo < IntKind.i64.wrap (y.hi + 2)):=by rw [hpv]; rfl
       rw [hn]
       simp only [method_specs_simp,seval,d0,w2,hx,hy,encSn]
       refine ⟨by omega,by omega,by omega,by omega,?_⟩
       cases c3 : decide (x.lo < IntKind.i64.wrap (y.hi + 2)) with
       | true =>
        simp only [method_specs_simp,seval,Zd,ZE]
       | false =>
        simp only [method_specs_simp,seval,Yc,Zx]
        refine Again.mk (j + 1 + 1) [] ⟨h,by rw [hpn]⟩ (Zk h (Zl _)) ?_
        simp only [mvcgen_simp,method_specs_simp,seval,w3]
   ·simp only [decide_eq_false_iff_not,Zd,Ze] at h
    rw [ZN (by omega),spGo]
theorem c_inSp1 (x : Spn) (id : Int) : Con P 233 [.agg (encSn x),.fptr [.int .i64 id] 0] (.bool (Gm.isB id x.lo x.hi)):=by
 refine Con.of (n:=10) (rs:=[.tmp 3]) (Is.fn Try.func233) rfl (Is.call Try.call233) Try.results233 Try.ntmps233 trivial ?_
 simp only [method_specs_simp,seval,encSn]
 refine clY.con (c_in id x.lo x.hi) (by simp only [method_specs_simp]) ?_
 simp only [method_specs_simp,seval,encSn]
theorem c_indexFSp (xs : List Spn) (f : FuncId) (caps : List V) (p : Spn → Bool) (hc : Refs (fun _=>False) caps) (hf : ∀ x ∈ xs,Con P f ([.agg (encSn x)] ++ caps) (.bool (p x))) (hx : xs.length < 2 ^ 62) : Con P 248 [.sl 2 (xs.map encSn),.fn f [] caps] (.int .i64 (idxP p xs)):=by
 refine Con.of (n:=19) (rs:=[.tmp 4]) (Is.fn Try.func248) rfl (Is.call Try.call248) Try.results248 Try.ntmps248 trivial ?_
 simp only [method_specs_simp,seval]
 refine SW.while (A:=Nat) (fun k=>⟨pad 19 [.sl 2 (xs.map encSn),.fn f [] caps,.junk,.junk,.int .i64 0,.junk,.sl 2 (xs.map encSn),.int .i64 xs.length,.int .i64 k],[],[]⟩) (fun k=>xs.length - k)
  (fun k=>k ≤ xs.length ∧ idxP p xs = if (xs.drop k).any p then (k : Int) + (((xs.drop k).findIdx p : Nat) : Int) else -1) 0 [] ⟨Zn _,by simp [idxP]⟩ ?_ ?_
 ·simp only [mvcgen_simp,method_specs_simp,seval,rens_pure _ hc]
  exact Refs.mono (fun _ h=>h.elim) _ hc
 ·rintro k ⟨hk,hr⟩
  rw [hr]
  refine CW.sound ?_
  simp only [method_specs_simp,seval]
  refine gB_split (fun h=>?_) (fun h=>?_)
  ·simp only [decide_eq_true_eq,Ze] at h
   have hxk : xs[k]? = some xs[k]:=Zf h
   have hfk:=hf _ (ZH h)
   generalize xs[k] = x at hxk hfk
   rw [drop_cons hxk]
   simp only [Zp,hxk,method_specs_simp,seval]
   refine ⟨by omega,by omega,by simp [encSn],?_⟩
   rw [show ZA 2 (encSn x) = encSn x from rfl]
   refine clY.conC hfk rfl ⟨encSn_ref1 _ x,hc⟩ ?_
   simp only [method_specs_simp,seval]
   refine gB_split (fun h1=>?_) (fun h1=>?_)
   ·rw [idxP_hit h1]
   ·rw [wrap_id (by omega) (by omega),idxP_miss h1]
    refine Again.mk (k + 1) [] ⟨h,rfl⟩ (Zk h (Zl _)) ?_
    simp only [mvcgen_simp,method_specs_simp,seval,rens_pure _ hc]
    exact Refs.mono (fun _ h=>h.elim) _ hc
  ·simp only [decide_eq_false_iff_not,Zd,Ze] at h
   rw [ZN (by omega)]
   simp
theorem c_containsFSp (xs : List Spn) (f : FuncId) (caps : List V) (p : Spn → Bool) (hc : Refs (fun _=>False) caps) (hf : ∀ x ∈ xs,Con P f ([.agg (encSn x)] ++ caps) (.bool (p x))) (hx : xs.length < 2 ^ 62) : Con P 232 [.sl 2 (xs.map encSn),.fn f [] caps] (.bool (xs.any p)):=by
 refine Con.of (n:=9) (rs:=[.tmp 4]) (Is.fn Try.func232) rfl (Is.call Try.call232) Try.results232 Try.ntmps232 trivial ?_
 simp only [method_specs_simp,seval]
 refine clY.con (c_indexFSp xs f caps p hc hf hx) ⟨of_eq_true (encSn_refs _ xs),⟨trivial,hc⟩,trivial⟩ ?_
 simp only [method_specs_simp,seval]
 exact idxP_ge p xs
theorem c_inSpans (l : List Spn) (id : Int) (hl : l.length * 16 ≤ 2 ^ 47) : Con P 205 [.sl 2 (l.map encSn),.int .i64 id] (.bool (inS l id)):=by
 have hcl:=c_containsFSp (P:=P) l 233 [.fptr [.int .i64 id] 0] (fun x=>Gm.isB id x.lo x.hi) ⟨⟨trivial,trivial⟩,trivial⟩ (fun x _=>c_inSp1 x id) (by omega)
 refine Con.of (n:=8) (rs:=[.tmp 4]) (Is.fn Try.func205) rfl (Is.call Try.call205) Try.results205 Try.ntmps205 trivial ?_
 simp only [method_specs_simp,seval]
 refine clY.conF hcl (by simp only [method_specs_simp]) ⟨of_eq_true (encSn_refs _ _),⟨trivial,⟨⟨trivial,trivial⟩,trivial⟩⟩,trivial⟩ trivial ?_
 simp only [method_specs_simp,seval]
 rfl
theorem c_l15In (l : List Spn) (id : Int) (hl : l.length * 16 ≤ 2 ^ 47) : Con P 202 [.sl 2 (l.map encSn),.int .i64 id] (.bool (inS l id)):=by
 unfold inS
 refine Con.of (n:=28) (rs:=[.tmp 4]) (Is.fn Try.func202) rfl (Is.call Try.call202) Try.results202 Try.ntmps202 trivial ?_
 simp only [method_specs_simp,seval]
 refine SW.while (A:=Nat) (fun k=>⟨pad 28 [.sl 2 (l.map encSn),.int .i64 id,.junk,.junk,.bool false,.int .i64 k],[],[]⟩) (fun k=>l.length - k) (fun k=>k ≤ l.length ∧ (l.any fun x=>Gm.isB id x.lo x.hi) = ((l.drop k).any fun x=>Gm.isB id x.lo x.hi)) 0 [] ⟨Zn _,rfl⟩ ?_ ?_
 ·simp only [mvcgen_simp,method_specs_simp,seval]
 ·rintro k ⟨hk,hr⟩
  have w1 : IntKind.i64.wrap ((k : Int) + 1) = ((k + 1 : Nat) : Int):=wadd1 k (by omega)
  rw [hr]
  refine CW.sound ?_
  simp only [method_specs_simp,seval]
  refine gB_split (fun h=>?_) (fun h=>?_)
  ·simp only [decide_eq_true_eq,Ze] at h
   obtain ⟨x,hx⟩ : ∃ x,l[k]? = some x:=⟨_,Zf h⟩
   rw [drop_cons hx,List.any_cons]
   simp only [method_specs_simp,seval,hx,encSn]
   refine ⟨by omega,by omega,?_⟩
   have e : Gm.isB id x.lo x.hi = (decide (id ≥ x.lo) && decide (id ≤ x.hi)):=rfl
   rw [e]
   cases q1 : decide (id ≥ x.lo) with
   | false =>
    simp only [method_specs_simp,seval,ZE,Bool.false_or]
    refine Again.mk (k + 1) [] ⟨h,rfl⟩ (Zk h (Zl _)) ?_
    simp only [mvcgen_simp,method_specs_simp,seval,w1]
   | true =>
    cases q2 : decide (id ≤ x.hi) with
    | false =>
     simp only [method_specs_simp,seval,Zx,Bool.false_or]
     refine ⟨by omega,by omega,?_⟩
     refine Again.mk (k + 1) [] ⟨h,rfl⟩ (Zk h (Zl _)) ?_
     simp only [mvcgen_simp,method_specs_simp,seval,w1]
    | true =>
     simp only [method_specs_simp,seval,Zx,Bool.true_or]
     exact ⟨by omega,by omega⟩
  ·simp only [decide_eq_false_iff_not,Zd,Ze] at h
   rw [ZN (by omega)]
   rfl
end
def morI (g : Gr) (l : List Spn) (ids : List Int) : List Ev:=(ids.filter fun id=>!inS l id).map fun id=>(atE g.events id).getD zE
def morE (g : Gr) (l : List Spn) : List Ev:=morI g l (orderE g.events)
theorem morI_next {g : Gr} {l : List Spn} {ids : List Int} {k : Nat} {id : Int} (h : ids[k]? = some id) : morI g l (ids.take (k + 1)) = morI g l (ids.take k) ++ if inS l id then [] else [(atE g.events id).getD zE]:=by
 unfold morI
 rw [ZI,h,ZP,List.filter_append,ZQ]
 cases hb : inS l id <;> simp [hb]
theorem morI_len (g : Gr) (l : List Spn) (ids : List Int) : (morI g l ids).length ≤ ids.length:=by
 unfold morI
 rw [ZG]
 exact List.length_filter_le _ _
theorem convs_r8u {m : List Ob} {a b c d e f g h : V} {l : List V} : convs m (r8 a b c d e f g h l) = r8 (conv m a) (conv m b) (conv m c) (conv m d) (conv m e) (conv m f) (conv m g) (conv m h) (convs m l):=rfl
theorem conv_junku {m : List Ob} : conv m .junk = .junk:=rfl
def rowsQ : List Nat → List Ev → List (List V)
 | [],_=>[]
 | _ :: _,[]=>[]
 | q :: qs,e :: es=>rowEv q e :: rowsQ qs es
structure LiesQ (m : List Ob) (q : Nat) (qs : List Nat) (es : List Ev) : Prop where
 len : qs.length = es.length
 nd : qs.Nodup
 arr : m[q]? = some (.arr true 9 (rowsQ qs es))
 at_ : ∀ (i : Nat) (e : Ev),es[i]? = some e → ∃ p : Nat,qs[i]? = some p ∧ m[p]? = some (obI e)
theorem LiesQ.app {m : List Ob} {q : Nat} {qs : List Nat} {es : List Ev} (h : LiesQ m q qs es) (L : List Ob) : LiesQ (m ++ L) q qs es :=
 ⟨h.len,h.nd,by rw [Zt (Zi.1 h.arr).1]; exact h.arr,fun i e hi=>by
  obtain ⟨p,h1,h2⟩:=h.at_ i e hi
  exact ⟨p,h1,by rw [Zt (Zi.1 h2).1]; exact h2⟩⟩
theorem rowsQ_app : ∀ (qs : List Nat) (es : List Ev) (p : Nat) (e : Ev),qs.length = es.length → rowsQ (qs ++ [p]) (es ++ [e]) = rowsQ qs es ++ [rowEv p e]
 | [],[],p,e,_=>rfl
 | [],x :: es,p,e,h=>absurd h (ZD _).symm
 | q :: qs,[],p,e,h=>absurd h (ZD _)
 | q :: qs,x :: es,p,e,h=>congrArg (rowEv q x :: ·) (rowsQ_app qs es p e (Nat.succ.inj h))
theorem rowsQ_len : ∀ (qs : List Nat) (es : List Ev),qs.length = es.length → (rowsQ qs es).length = es.length
 | [],[],_=>rfl
 | [],x :: es,h=>absurd h (ZD _).symm
 | q :: qs,[],h=>absurd h (ZD _)
 | q :: qs,x :: es,h=>congrArg Nat.succ (rowsQ_len qs es (Nat.succ.inj h))
theorem rowEv_renQ (ρ : Nat → Nat) (q j : Nat) (e : Ev) (h : ρ q = j) : rens ρ (rowEv q e) = rowEv j e:=by
 simp only [rowEv,rens,V.ren,h]
theorem rowsQ_ren (ρ : Nat → Nat) : ∀ (qs : List Nat) (es : List Ev) (j : Nat),qs.length = es.length → (∀ (i p : Nat),qs[i]? = some p → ρ p = j + i) → renss ρ (rowsQ qs es) = rowsEv j es
 | [],[],j,_,_=>rfl
 | [],x :: es,j,h,_=>absurd h (ZD _).symm
 | q :: qs,[],j,h,_=>absurd h (ZD _)
 | q :: qs,x :: es,j,h,hr=>by
   show rens ρ (rowEv q x) :: renss ρ (rowsQ qs es) = rowEv j x :: rowsEv (j + 1) es
   rw [rowsQ_ren ρ qs es (j + 1) (Nat.succ.inj h) fun i p hp=>by rw [hr (i + 1) p hp]; omega,rowEv_renQ ρ q j x (hr 0 q rfl)]
theorem rowsQ_refs {ok : Nat → Prop} : ∀ (qs : List Nat) (es : List Ev),(∀ p ∈ qs,ok p) → Refss ok (rowsQ qs es)
 | [],_,_=>trivial
 | _ :: _,[],_=>trivial
 | q :: qs,x :: es,h=>⟨⟨trivial,trivial,trivial,trivial,trivial,trivial,trivial,h q ZL,trivial,trivial⟩,rowsQ_refs qs es fun p hp=>h p (ZX _ hp)⟩
theorem LiesQ.mem {m : List Ob} {q : Nat} {qs : List Nat} {es : List Ev} (h : LiesQ m q qs es) {p : Nat} (hp : p ∈ qs) : ∃ e ∈ es,m[p]? = some (obI e):=by
 obtain ⟨i,hi⟩:=List.getElem?_of_mem hp
 have hl:=(Zi.1 hi).1
 obtain ⟨e,he⟩ : ∃ e,es[i]? = some e:=⟨_,Zf (by rw [← h.len]; exact hl)⟩
 obtain ⟨p2,h1,h2⟩:=h.at_ i e he
 rw [hi] at h1
 injection h1 with h1
 subst h1
 exact ⟨e,ZR he,h2⟩
theorem LiesQ.ne {m : List Ob} {q : Nat} {qs : List Nat} {es : List Ev} (h : LiesQ m q qs es) : q ∉ qs:=fun hq=>by
 obtain ⟨e,_,he⟩:=h.mem hq
 rw [h.arr] at he
 simp [obI] at he
theorem LiesQ.push {m : List Ob} {q N : Nat} {qs : List Nat} {es : List Ev} (h : LiesQ m q qs es) (hN : m.length = N) (e : Ev) (a b : Ob) : LiesQ (m.set q .dead ++ [a,obI e,b,.arr true 9 (rowsQ qs es ++ [rowEv (N + 1) e])]) (N + 3) (qs ++ [N + 1]) (es ++ [e]):=by
 have hl : (m.set q .dead).length = N:=by rw [Yb,hN]
 have hlt : ∀ p ∈ qs,p < N:=fun p hp=>by
  obtain ⟨x,_,hx⟩:=h.mem hp
  rw [← hN]; exact (Zi.1 hx).1
 refine ⟨by simp [h.len],?_,?_,fun i x hi=>?_⟩
 ·rw [List.nodup_append]
  refine ⟨h.nd,by simp,fun x hx y hy=>?_⟩
  rw [Yd] at hy
  have:=hlt x hx
  omega
 ·rw [Zg (by omega),hl,Zs,rowsQ_app _ _ _ _ h.len]; rfl
 ·by_cases hie : i < es.length
  ·rw [Zt hie] at hi
   obtain ⟨p,h1,h2⟩:=h.at_ i x hi
   have hpq : q ≠ p:=fun hq=>h.ne (hq ▸ ZR h1)
   refine ⟨p,by rw [Zt (by rw [h.len]; exact hie)]; exact h1,?_⟩
   rw [Zt (by rw [hl]; exact hlt p (ZR h1)),List.getElem?_set_ne hpq]
   exact h2
  ·have hil:=(Zi.1 hi).1
   rw [Zv,Yt] at hil
   have hie2 : i = es.length:=by omega
   subst hie2
   rw [Zg (Zm _),Zu] at hi
   injection hi with hi
   have hi : e = x:=hi
   subst hi
   refine ⟨N + 1,by rw [Zg (by rw [h.len]; exact Zm _),h.len,Zu]; rfl,?_⟩
   rw [Zg (by omega),hl,Zs]; rfl
theorem LiesQ.res {m : List Ob} {q : Nat} {qs : List Nat} {es : List Ev} (h : LiesQ m q qs es) : @LResY m [] (.ar q 0 es.length) ⟨[],.ar 0 0 es.length,obE es⟩:=by
 have hnd : (q :: qs).Nodup:=List.nodup_cons.2 ⟨h.ne,h.nd⟩
 have hi0 : idx (q :: qs) q = 0:=idx_of hnd rfl
 have hi1 : ∀ (i p : Nat),qs[i]? = some p → idx (q :: qs) p = 1 + i:=fun i p hp=>by
  rw [idx_of hnd (i:=i + 1) (by rw [Zh]; exact hp),ZJ]
 have gq : m.getD q .hole = .arr true 9 (rowsQ qs es):=by rw [Zz,h.arr]; rfl
 refine LResY.mk (q :: qs) ⟨hnd,fun p hp=>?_,fun p hp=>?_,?_,⟨.inr ⟨ZL,?_⟩,rfl⟩,rfl⟩
 ·rcases Zw.1 hp with rfl | hp
  ·exact (Zi.1 h.arr).1
  ·obtain ⟨x,_,hx⟩:=h.mem hp
   exact (Zi.1 hx).1
 ·rcases Zw.1 hp with rfl | hp
  ·simp only
   rw [gq]
   exact rowsQ_refs qs es fun p hp=>ZX _ hp
  ·obtain ⟨x,_,hx⟩:=h.mem hp
   simp only
   rw [Zz,hx]
   exact obI_refs _ x
 ·simp only [ZB]
  rw [gq]
  unfold obE
  congr 1
  ·simp only [Ob.ren,rowsQ_ren _ qs es 1 h.len hi1]
  ·apply ZT
   intro i
   rw [Zp,Zp]
   by_cases hie : i < es.length
   ·obtain ⟨x,hx⟩ : ∃ x,es[i]? = some x:=⟨_,Zf hie⟩
    obtain ⟨p,h1,h2⟩:=h.at_ i x hx
    rw [hx,h1,ZU,ZU,Zz,h2,Option.getD_some,obI_ren]
   ·rw [ZV (by omega),ZV (by rw [h.len]; omega)]; rfl
 ·simp only [V.ren,hi0]
section
variable {P : Program} [Is P]
theorem n_moreThan (g : Gr) (l : List Spn) (hg : GrOK g) (hl : l.length * 16 ≤ 2 ^ 47) (hs : Gm.Srt g.events) (hin : ∀ e ∈ g.events,Gm.allIn g.events e = true) : LCon P 142 [.agg (encGr g),.sl 2 (l.map encSn)] [] (.ar 0 0 (morE g l).length) (obE (morE g l)):=by
 have hx:=hg.1.1
 have hol:=orderE_len g.events
 have hor:=n_order (P:=P) g hg.1 hs hin
 obtain ⟨ids,hids⟩ : ∃ ids,ids = orderE g.events:=⟨_,rfl⟩
 have hidl : ids.length = g.events.length:=by rw [hids,hol]
 unfold morE
 rw [← hids] at hor ⊢
 refine LCon.of (n:=35) (rs:=[.tmp 4]) (Is.fn Try.func142) rfl (Is.call Try.call142) Try.results142 Try.ntmps142 ?_
 simp only [method_specs_simp,seval]
 refine clY.new hor ⟨encGr_ref1 _ g,trivial⟩ ?_
 simp only [method_specs_simp,seval]
 refine SW.freeze [0,2] ?_
 simp only [mvcgen_simp,method_specs_simp,seval,convs_r8u,conv_junku]
 rw [show ZA g.events.length (ids.map encI) = ids.map encI from Zr (by rw [ZG]; omega)]
 refine SW.whileJ (A:=List Ob × Nat × List Nat × Nat) (fun a=>⟨pad 35 [.agg (encGr g),.sl 2 (l.map encSn),.fptr (encGr g) 0,.junk,.nil,.ar a.2.1 0 (morI g l (ids.take a.2.2.2)).length,.junk,.junk,.junk,.junk,.junk,.junk,.sl 1 (ids.map encI),.int .i64 g.events.length,.int .i64 a.2.2.2],a.1,[]⟩) (fun a=>ids.length - a.2.2.2)
  (fun a=>a.2.2.2 ≤ ids.length ∧ LiesQ a.1 a.2.1 a.2.2.1 (morI g l (ids.take a.2.2.2))) ([.box false (encGr g),.arr true 9 [],.arr false 1 (ids.map encI)],1,[],0) ⟨Zn _,⟨rfl,List.nodup_nil,rfl,fun i e h=>by simp [morI] at h⟩⟩ ?_ ?_
 ·have eG : convs [Ob.box false (encGr g),.arr true 9 [],.arr false 1 (ids.map encI)] (encGr g) = encGr g:=by
   simp only [encGr,convs,conv]
  simp only [mvcgen_simp,method_specs_simp,seval,eG]
  rfl
 ·rintro ⟨m,q,qs,k⟩ ⟨hk,hL⟩
  simp only at hk hL
  have hq:=hL.arr
  have w1 : IntKind.i64.wrap ((k : Int) + 1) = ((k + 1 : Nat) : Int):=wadd1 k (by omega)
  refine CW.sound ?_
  simp only [method_specs_simp,seval]
  refine gB_split (fun h=>?_) (fun h=>?_)
  ·simp only [decide_eq_true_eq,Ze] at h
   obtain ⟨id,hid⟩ : ∃ id,ids[k]? = some id:=⟨_,Zf (by omega)⟩
   have hnx:=morI_next (g:=g) (l:=l) hid
   simp only [method_specs_simp,seval,hid,encI]
   refine ⟨by omega,by omega,?_⟩
   refine clY.con (c_at g id hx hs) (by simp only [method_specs_simp,encGr]) ?_
   obtain ⟨e,he⟩ : ∃ e,e = (atE g.events id).getD zE:=⟨_,rfl⟩
   have hOK : EvOK e:=by rw [he]; exact at_ok hg id
   rw [← he] at hnx ⊢
   obtain ⟨N,hN⟩ : ∃ N,m.length = N:=⟨_,rfl⟩
   have hp : Past m N:=Past.mk' hN
   have hqN : q < N:=by rw [← hN]; exact (Zi.1 hq).1
   have hq1 : ∀ L : List Ob,(m ++ L)[q]? = some (.arr true 9 (rowsQ qs (morI g l (ids.take k)))):=fun L=>by rw [Zt (by omega)]; exact hq
   have hq2 : ∀ L : List Ob,arrAt (m ++ L) q = some (9,rowsQ qs (morI g l (ids.take k))):=fun L=>by unfold arrAt; rw [hq1]
   have hq3 : ∀ L : List Ob,arrLv (m ++ L) q = some (9,rowsQ qs (morI g l (ids.take k))):=fun L=>by unfold arrLv; rw [hq1]
   have hq4 : ∀ (L : List Ob) (o : Ob),(m ++ L).set q o = m.set q o ++ L:=fun L o=>List.set_append_left _ _ (by omega)
   simp only [method_specs_simp,seval,hq1,hq2,hq3,hq4,hp.len,hp.g0,hp.g,hp.b0,hp.b,hp.v0,hp.v,hp.a0,hp.a,hp.w0,hp.w,hp.s0,hp.s,Zb,Zc,Za,encEv]
   refine clY.con (c_inSpans l id hl) ⟨of_eq_true (encSn_refs _ _),trivial,trivial⟩ ?_
   cases hb : inS l id with
   | true =>
    rw [hb,if_pos rfl,Zj] at hnx
    simp only [method_specs_simp,seval,hq1,hq2,hq3,hq4,hp.len,hp.g0,hp.g,hp.b0,hp.b,hp.v0,hp.v,hp.a0,hp.a,hp.w0,hp.w,hp.s0,hp.s,Zb,Zc,Za]
    refine AgainJ.mk (m ++ [.box true (encEv e)],q,qs,k + 1) ⟨by show k + 1 ≤ _; omega,by simp only; rw [hnx]; exact hL.app _⟩ (by show ids.length - (k + 1) < ids.length - k; omega) ?_
    simp only
    rw [hnx]
    simp only [mvcgen_simp,method_specs_simp,seval,hq1,hq2,hq3,hq4,hp.len,hp.g0,hp.g,hp.b0,hp.b,hp.v0,hp.v,hp.a0,hp.a,hp.w0,hp.w,hp.s0,hp.s,Zb,Zc,Za,w1,encEv]
   | false =>
    rw [hb,if_neg (by decide)] at hnx
    simp only [method_specs_simp,seval,hq1,hq2,hq3,hq4,hp.len,hp.g0,hp.g,hp.b0,hp.b,hp.v0,hp.v,hp.a0,hp.a,hp.w0,hp.w,hp.s0,hp.s,Zb,Zc,Za]
    refine clY.new (n_copied e hOK) ⟨encEv_ref1 _ e,trivial⟩ ?_
    simp only [method_specs_simp,seval,hq1,hq2,hq3,hq4,hp.len,hp.g0,hp.g,hp.b0,hp.b,hp.v0,hp.v,hp.a0,hp.a,hp.w0,hp.w,hp.s0,hp.s,Zb,Zc,Za,rowEv]
    have hrl : (rowsQ qs (morI g l (ids.take k))).length = (morI g l (ids.take k)).length:=rowsQ_len _ _ hL.len
    have hml:=morI_len g l (ids.take k)
    rw [Zy] at hml
    refine ⟨rfl,hrl,by omega,by omega,?_⟩
    have hpu:=hL.push hN e (.box true (encEv e)) (.arr true 9 [rowEv (N + 1) e])
    refine AgainJ.mk (m.set q .dead ++ [.box true (encEv e),obI e,.arr true 9 [rowEv (N + 1) e],.arr true 9 (rowsQ qs (morI g l (ids.take k)) ++ [rowEv (N + 1) e])],N + 3,qs ++ [N + 1],k + 1) ⟨by show k + 1 ≤ _; omega,by simp only; rw [hnx]; exact hpu⟩ (by show ids.length - (k + 1) < ids.length - k; omega) ?_
    simp only
    rw [hnx,Zv,Yt]
    simp only [mvcgen_simp,method_specs_simp,seval,hq1,hq2,hq3,hq4,hp.len,hp.g0,hp.g,hp.b0,hp.b,hp.v0,hp.v,hp.a0,hp.a,hp.w0,hp.w,hp.s0,hp.s,Zb,Zc,Za,w1,rowEv,encEv]
  ·simp only [decide_eq_false_iff_not,Zd,Ze] at h
   have hk2 : k = ids.length:=by omega
   rw [hk2,List.take_length] at hL ⊢
   exact hL.res
end
def zSn : List V:=[.int .i64 0,.int .i64 0]
@[method_specs_simp] theorem rowSn_refs (ok : Nat → Prop) (xs : List Spn) (k : Nat) : Refss ok (rowZ encSn zSn xs k) = True:=eq_true (rowZ_refs (fun x=>encSn_ref1 ok x) (by simp [zSn,Refs,Ref]) xs k)
@[method_specs_simp] theorem rowSn_rens (ρ : Nat → Nat) (xs : List Spn) (k : Nat) : renss ρ (rowZ encSn zSn xs k) = rowZ encSn zSn xs k:=rowZ_rens (fun x=>encSn_ref1 _ x) (by simp [zSn,Refs,Ref]) xs k
section
variable {P : Program} [Is P]
theorem c_szSpanS (xs : List Spn) (l : Int) (h0 : 0 ≤ l) (h1 : l ≤ 1048576) (hx : xs.length < 2 ^ 62) : Con P 53 [.sl 2 (xs.map encSn),.int .i64 l] (.int .i64 (sb l xs.length)):=by
 refine Con.of (n:=12) (rs:=[.tmp 4]) (Is.fn Try.func53) rfl (Is.call Try.call53) Try.results53 Try.ntmps53 trivial ?_
 simp only [method_specs_simp,seval]
 rw [wrap_id (by omega) (by omega)]
 refine gB_split (fun h=>?_) (fun h=>?_)
 ·simp only [decide_eq_true_eq] at h; rw [sb_lt h]
 ·simp only [decide_eq_false_iff_not,Zd] at h
  rw [sb_ge (by omega)]
theorem c_toSpan (x : Spn) : Con P 140 [.agg (encSn x)] (.agg (encSn x)):=by
 refine Con.of (n:=11) (rs:=[.cell 2 154]) (Is.fn Try.func140) rfl (Is.call Try.call140) Try.results140 Try.ntmps140 (encSn_ref1 _ x) ?_
 simp only [method_specs_simp,seval]
 simp only [method_specs_simp,seval,encSn]
 try rfl
theorem n_toSpanS (xs : List Spn) (hx1 : xs.length * 16 ≤ 2 ^ 47) : NCon P 55 [.sl 2 (xs.map encSn)] (.ar 0 0 xs.length) [.arr true 2 (xs.map encSn)]:=by
 refine LCon.new (LCon.of (n:=23) (rs:=[.tmp 2]) (Is.fn Try.func55) rfl (Is.call Try.call55) Try.results55 Try.ntmps55 ?_) (pure1 (pure_spns _ _))
 simp only [method_specs_simp,seval]
 refine ⟨by omega,by omega,by omega,?_⟩
 refine SW.while (A:=Nat) (fun k=>⟨pad 23 [.sl 2 (xs.map encSn),.junk,.nil,.ar 0 0 xs.length,.int .i64 k],[.arr true 2 (rowZ encSn zSn xs k)],[]⟩) (fun k=>xs.length - k) (fun k=>k ≤ xs.length) 0 [0] (Zn _) ?_ ?_
 ·have ez : ZO xs.length [V.int .i64 0,.int .i64 0] = rowZ encSn zSn xs 0:=(rowZ_zero _ _ _).symm
  rw [ez]
  simp only [mvcgen_simp,method_specs_simp,seval]
 ·intro k hk
  refine CW.sound ?_
  simp only [method_specs_simp,seval]
  refine gB_split (fun h=>?_) (fun h=>?_)
  ·simp only [decide_eq_true_eq,Ze] at h
   have hxk : xs[k]? = some xs[k]:=Zf h
   generalize xs[k] = x at hxk
   simp only [Zp,hxk,method_specs_simp,seval]
   refine ⟨by omega,by omega,by simp [encSn],?_⟩
   rw [show ZA 2 (encSn x) = encSn x from rfl]
   refine clY.con (c_toSpan x) ⟨encSn_ref1 _ x,trivial⟩ ?_
   simp only [method_specs_simp,seval]
   rw [rowZ_get h]
   refine ⟨by omega,by omega,by rw [rowZ_length hk]; exact h,by simp [encSn,oneV],rfl,by simp [encSn],?_⟩
   rw [wrap_id (by omega) (by omega),show encSn x ++ List.drop (encSn x).length zSn = encSn x from rfl,rowZ_set hxk]
   refine Again.mk (k + 1) [0] h (Zk h (Zl _)) ?_
   simp only [mvcgen_simp,method_specs_simp,seval]
  ·simp only [decide_eq_false_iff_not,Zd,Ze] at h
   have hi : k = xs.length:=by omega
   subst hi
   rw [rowZ_all]
   refine LResY.mk [0] ?_
   simp only [mvcgen_simp,method_specs_simp,seval]
theorem c_toSpanS (xs : List Spn) (hx1 : xs.length * 16 ≤ 2 ^ 47) : Con P 55 [.sl 2 (xs.map encSn)] (.sl 2 (xs.map encSn)):=by
 have h:=(n_toSpanS (P:=P) xs hx1).con (by simp only [method_specs_simp])
 have e : convR [Ob.arr true 2 (xs.map encSn)] (.ar 0 0 xs.length) = .sl 2 (xs.map encSn):=by simp only [method_specs_simp,Zr,ZG,Zm]
 rwa [e] at h
theorem n_MoreThan (g : Gr) (l : List Spn) (hg : GrOK g) (hl : l.length * 16 ≤ 2 ^ 47) (hr : Gm.grRight g = true) (hs : spR l = true) : LCon P 56 [.agg (encGr g),.sl 2 (l.map encSn)] [] (.ar 0 0 (morE g l).length) (obE (morE g l)):=by
 have hmt:=n_moreThan (P:=P) g l hg hl (grRight_srt hr).1 (right_in hr)
 refine LCon.of (n:=16) (rs:=[.tmp 4]) (Is.fn Try.func56) rfl (Is.call Try.call56) Try.results56 Try.ntmps56 ?_
 simp only [method_specs_simp,seval]
 refine clY.con (c_GraphRight g hg) ⟨encGr_ref1 _ g,trivial⟩ ?_
 rw [hr]
 simp only [method_specs_simp,seval]
 refine clY.con (c_SpansRight l hl) ⟨of_eq_true (encSn_refs _ _),trivial⟩ ?_
 rw [hs]
 simp only [method_specs_simp,seval]
 refine clY.newD 0 hmt (dcv_zero _ _) ⟨encGr_ref1 _ g,of_eq_true (encSn_refs _ _),trivial⟩ trivial (obE_flat _) ?_
 simp only [method_specs_simp,seval]
 refine LResY.tail (A:=[.box true (encGr g)]) rfl rfl (obE_refs _ (by rw [obE_len]; omega)) ?_
 show 0 < (obE (morE g l)).length
 rw [obE_len]; omega
theorem c_MoreThanZ (g : Gr) (l : List Spn) (hg : GrOK g) (hl : l.length * 16 ≤ 2 ^ 47) (h : (Gm.grRight g && spR l) = false) : Con P 56 [.agg (encGr g),.sl 2 (l.map encSn)] .nil:=by
 refine Con.of (n:=16) (rs:=[.tmp 4]) (Is.fn Try.func56) rfl (Is.call Try.call56) Try.results56 Try.ntmps56 trivial ?_
 simp only [method_specs_simp,seval]
 refine clY.con (c_GraphRight g hg) ⟨encGr_ref1 _ g,trivial⟩ ?_
 cases hr : Gm.grRight g with
 | false =>
  simp only [method_specs_simp,seval]
 | true =>
  rw [hr,Zx] at h
  simp only [method_specs_simp,seval]
  refine clY.con (c_SpansRight l hl) ⟨of_eq_true (encSn_refs _ _),trivial⟩ ?_
  rw [h]
  simp only [method_specs_simp,seval]
theorem c_l16More (g : Gr) (l : List Spn) (hg : GrOK g) (hl : l.length * 16 ≤ 2 ^ 47) (hr : Gm.grRight g = true) : Con P 139 [.agg (encGr g),.sl 2 (l.map encSn)] (.sl 9 ((morE g l).map encEv)):=by
 have hx:=hg.1.1
 have hol:=orderE_len g.events
 have hso:=c_l03Sort (P:=P) g hg.1 (right_in hr) (right_pos hr)
 obtain ⟨ids,hids⟩ : ∃ ids,ids = orderE g.events:=⟨_,rfl⟩
 have hidl : ids.length = g.events.length:=by rw [hids,hol]
 unfold morE
 rw [← hids] at hso ⊢
 refine Con.of (n:=34) (rs:=[.tmp 4]) (Is.fn Try.func139) rfl (Is.call Try.call139) Try.results139 Try.ntmps139 (by simp only [method_specs_simp]) ?_
 simp only [method_specs_simp,seval]
 refine clY.con hso ⟨encGr_ref1 _ g,trivial⟩ ?_
 simp only [method_specs_simp,seval]
 refine SW.while (A:=Nat) (fun k=>⟨pad 34 [.junk,.sl 2 (l.map encSn),.ptr 0 0,.junk,.nil,.ar 1 0 (morI g l (ids.take k)).length,.sl 1 (ids.map encI),.int .i64 k],[.box true (encGr g),.arr true 9 ((morI g l (ids.take k)).map encEv)],[]⟩) (fun k=>ids.length - k) (fun k=>k ≤ ids.length) 0 [0,1] (Zn _) ?_ ?_
 ·simp only [mvcgen_simp,method_specs_simp,seval]
  exact ⟨rfl,rfl⟩
 ·intro k hk
  have w1 : IntKind.i64.wrap ((k : Int) + 1) = ((k + 1 : Nat) : Int):=wadd1 k (by omega)
  have hml:=morI_len g l (ids.take k)
  rw [Zy] at hml
  refine CW.sound ?_
  simp only [method_specs_simp,seval]
  refine gB_split (fun h=>?_) (fun h=>?_)
  ·simp only [decide_eq_true_eq,Ze] at h
   obtain ⟨id,hid⟩ : ∃ id,ids[k]? = some id:=⟨_,Zf (by omega)⟩
   have hnx:=morI_next (g:=g) (l:=l) hid
   simp only [method_specs_simp,seval,hid,encI]
   refine ⟨by omega,by omega,?_⟩
   refine clY.con (c_l15In l id hl) ⟨of_eq_true (encSn_refs _ _),trivial,trivial⟩ ?_
   cases hb : inS l id with
   | true =>
    rw [hb,if_pos rfl,Zj] at hnx
    simp only [method_specs_simp,seval]
    refine Again.mk (k + 1) [0,1] h (by show ids.length - (k + 1) < ids.length - k; omega) ?_
    rw [hnx]
    simp only [mvcgen_simp,method_specs_simp,seval,w1]
   | false =>
    rw [hb,if_neg (by decide)] at hnx
    obtain ⟨e,he⟩ : ∃ e,e = (atE g.events id).getD zE:=⟨_,rfl⟩
    have hce:=c_l03Event (P:=P) g id hg
    rw [← he] at hnx hce
    have e1 : (morI g l (ids.take k)).map encEv ++ [[V.int .i64 e.id,V.int .i64 e.room,V.int .i64 e.author,V.int .i64 e.kind,V.int .i64 e.key,V.int .i64 e.n,V.str e.text,V.sl 1 (e.prev.map encI),V.int .i64 e.time]] = (morI g l (ids.take (k + 1))).map encEv:=by rw [hnx,ZQ]; rfl
    have e2 : (morI g l (ids.take k)).length + 1 = (morI g l (ids.take (k + 1))).length:=by rw [hnx,Zv]; rfl
    simp only [method_specs_simp,seval,hid,encI]
    refine ⟨by kernel_rfl,by omega,by omega,?_⟩
    refine clY.con hce ⟨encGr_ref1 _ g,trivial,trivial⟩ ?_
    simp only [method_specs_simp,seval,encEv]
    refine ⟨by omega,by omega,?_⟩
    rw [e1,e2]
    refine Again.mk (k + 1) [0,3] h (by show ids.length - (k + 1) < ids.length - k; omega) ?_
    simp only [mvcgen_simp,method_specs_simp,seval,w1]
  ·have hk2 : k = ids.length:=by simp only [decide_eq_false_iff_not,Zd,Ze] at h; omega
   rw [hk2,List.take_length]
theorem c_sMoreThan (g : Gr) (l : List Spn) (hg : GrOK g) (hl : l.length * 16 ≤ 2 ^ 47) (h : (Gm.grRight g && spR l) = true) : Con P 54 [.agg (encGr g),.sl 2 (l.map encSn)] (.sl 9 ((morE g l).map encEv)):=by
 rw [ZS] at h
 refine Con.of (n:=17) (rs:=[.tmp 4]) (Is.fn Try.func54) rfl (Is.call Try.call54) Try.results54 Try.ntmps54 (by simp only [method_specs_simp]) ?_
 simp only [method_specs_simp,seval]
 refine clY.con (c_sGraphRight g hg) ⟨encGr_ref1 _ g,trivial⟩ ?_
 rw [h.1]
 simp only [method_specs_simp,seval]
 refine clY.con (c_sSpansRight l hl) ⟨of_eq_true (encSn_refs _ _),trivial⟩ ?_
 rw [h.2]
 simp only [method_specs_simp,seval]
 refine clY.con (c_l16More g l hg hl h.1) ⟨encGr_ref1 _ g,of_eq_true (encSn_refs _ _),trivial⟩ ?_
 simp only [method_specs_simp,seval]
theorem c_sMoreThanZ (g : Gr) (l : List Spn) (hg : GrOK g) (hl : l.length * 16 ≤ 2 ^ 47) (h : (Gm.grRight g && spR l) = false) : Con P 54 [.agg (encGr g),.sl 2 (l.map encSn)] (.sl 9 (([] : List Ev).map encEv)):=by
 refine Con.of (n:=17) (rs:=[.tmp 4]) (Is.fn Try.func54) rfl (Is.call Try.call54) Try.results54 Try.ntmps54 trivial ?_
 simp only [method_specs_simp,seval]
 refine clY.con (c_sGraphRight g hg) ⟨encGr_ref1 _ g,trivial⟩ ?_
 cases hr : Gm.grRight g with
 | false =>
  simp only [method_specs_simp,seval,ZY]
 | true =>
  rw [hr,Zx] at h
  simp only [method_specs_simp,seval]
  refine clY.con (c_sSpansRight l hl) ⟨of_eq_true (encSn_refs _ _),trivial⟩ ?_
  rw [h]
  simp only [method_specs_simp,seval,ZY]
end
theorem dcv_spns {m : List Ob} {q n : Nat} {l : List Spn} (h : m[q]? = some (.arr true 2 (l.map encSn))) : dcv (n + 1) m (.ar q 0 l.length) = .sl 2 (l.map encSn):=by
 simp only [dcv,h,Yk]
 rw [Zr (by rw [ZG]; exact Zm _)]
 congr 1
 rw [Yg]
 exact Yh fun x _=>by cases n <;> rfl
section
variable {P : Program} [Is P]
theorem c_eqNilEv : Con P 57 [.nil,.sl 9 (([] : List Ev).map encEv)] (.bool true) :=
 (c_eqEventS [] ⟨by decide,fun e he=>absurd he (Yf)⟩).weak (VLes.cons (VLe.nil 9) (VLes.same VLes.nil))
theorem c_heldNilEv (k : Int) (h0 : 0 ≤ k) (h1 : k < 2 ^ 40) : Con P 61 [.nil,.int .i64 k] (.int .i64 k):=by
 have h:=(c_heldEventS (P:=P) [] k h0 (by omega) ⟨by decide,fun e he=>absurd he (Yf)⟩ (by simp only [wM]; omega)).weak (VLes.cons (VLe.nil 9) (VLes.same VLes.nil))
 rwa [show k + wM [] = k by simp only [wM]; omega] at h
theorem c_markNilEv (k : Int) : Con P 60 [.nil,.int .i64 k] (.int .i64 k):=by
 have h : Con P 60 [.sl 9 [],.int .i64 k] (.int .i64 k):=by
  refine Con.of (n:=77) (rs:=[.tmp 4]) (Is.fn Try.func60) rfl (Is.call Try.call60) Try.results60 Try.ntmps60 trivial ?_
  simp only [method_specs_simp,seval]
  refine SW.while (A:=Unit) (fun _=>⟨pad 77 [.sl 9 [],.int .i64 k,.junk,.junk,.junk,.int .i64 0],[],[]⟩) (fun _=>0) (fun _=>True) () [] trivial ?_ ?_
  ·simp only [mvcgen_simp,method_specs_simp,seval]
  ·intro _ _
   refine CW.sound ?_
   simp only [method_specs_simp,seval]
 exact h.weak (VLes.cons (VLe.nil 9) (VLes.same VLes.nil))
theorem mt_law (g : Gr) (l : List Spn) (zs : List Ev) (hg : GrOK g) (hl : l.length * 16 ≤ 2 ^ 47) (hz : EvsOK zs) (hzw : wM zs < 2 ^ 56) (h46 : Con P 54 [.agg (encGr g),.sl 2 (l.map encSn)] (.sl 9 (zs.map encEv))) (h47 : LCon P 56 [.agg (encGr g),.sl 2 (l.map encSn)] [] (.ar 0 0 zs.length) (obE zs)) :
  Con P 7 [.agg (encGr g),.sl 2 (l.map encSn)] (.bool true):=by
 refine Con.of (n:=92) (rs:=[.tmp 4]) (Is.fn Try.func7) rfl (Is.call Try.call7) Try.results7 Try.ntmps7 trivial ?_
 simp only [method_specs_simp,seval]
 refine clY.con (c_szGraph g 1048576 (by decide) (by decide) hg) (by simp only [method_specs_simp]) ?_
 simp only [method_specs_simp,seval]
 refine gB_split (fun _=>trivial) (fun w1=>?_)
 obtain ⟨q1,q2,q3⟩:=sb_yes (wG_nn g) w1
 rw [q1]
 refine clY.con (c_szSpanS l (1048576 - wG g) q3 (by omega) (by omega)) (by simp only [method_specs_simp]) ?_
 simp only [method_specs_simp,seval]
 refine gB_split (fun _=>trivial) (fun w2=>?_)
 obtain ⟨q4,q5,q6⟩:=sb_yes (w:=(l.length : Int)) (by omega) w2
 refine clY.con (c_toGraph g hg) (by simp only [method_specs_simp]) ?_
 simp only [method_specs_simp,seval]
 refine clY.con (c_toSpanS l hl) (by simp only [method_specs_simp]) ?_
 simp only [method_specs_simp,seval]
 refine clY.con (h46) (by simp only [method_specs_simp]) ?_
 simp only [method_specs_simp,seval]
 refine clY.newD 0 (n_toGraph g hg) (dcv_zero _ _) (by simp only [method_specs_simp]) (grV_flat 0 g) (obG_flat g) ?_
 obtain ⟨G,hG⟩ : ∃ G,G = obGb 1 g:=⟨_,rfl⟩
 obtain ⟨N,hN⟩ : ∃ N,N = g.events.length + 1 + (g.parked.length + 1):=⟨_,rfl⟩
 have hp : Past G N:=Past.mk' (by rw [hG,hN,obGb_len])
 have hA1 : ∀ L : List Ob,(G ++ L)[0]? = some (.arr true 9 (rowsEv 2 g.events)):=fun L=>by rw [hG]; rfl
 have hA2 : ∀ (a : Ob) (L : List Ob),(a :: (G ++ L))[1 + (g.events.length + 1)]? = some (.arr true 9 (rowsEv (1 + (g.events.length + 1) + 1) g.parked)):=fun a L=>by
  rw [hG]; exact obGb_one g a L
 simp only [method_specs_simp,seval,hp.len,hp.g0,hp.g,hp.b0,hp.b,hp.v0,hp.v,hp.a0,hp.a,hp.w0,hp.w,hp.s0,hp.s,Zb,Zc,Za,obG_ren,grV,← hG,hA1,hA2]
 have hL : ∀ (a : Ob) (L : List Ob),LiesG (a :: (G ++ L)) 1 g:=fun a L=>LiesG.mk (A:=[a]) rfl (by rw [hG]; rfl)
 refine clY.new (n_toSpanS l hl) (by simp only [method_specs_simp,hp.len,hp.g0,hp.g,hp.b0,hp.b,hp.v0,hp.v,hp.a0,hp.a,hp.w0,hp.w,hp.s0,hp.s,Zb,Zc,Za]) ?_
 simp only [method_specs_simp,seval,hp.len,hp.g0,hp.g,hp.b0,hp.b,hp.v0,hp.v,hp.a0,hp.a,hp.w0,hp.w,hp.s0,hp.s,Zb,Zc,Za]
 have hlen3 : ∀ (a b c : Ob),(a :: (G ++ [b,c])).length = N + 3:=fun a b c=>by rw [Zq,Zv,hp.len]; rfl
 refine clY.newD 3 h47 ?_ ⟨encGr_ref1 _ g,of_eq_true (encSn_refs _ _),trivial⟩ trivial (obE_flat _) ?_
 ·show [dcv 3 _ (.agg (grV 1 g)),dcv 3 _ (.ar (N + 2) 0 l.length)] = _
  rw [(hL _ _).dcv,dcv_spns]
  simp only [method_specs_simp,seval,hp.len,hp.g0,hp.g,hp.b0,hp.b,hp.v0,hp.v,hp.a0,hp.a,hp.w0,hp.w,hp.s0,hp.s,Zb,Zc,Za]
 rw [hlen3,obE_ren]
 obtain ⟨E,hE⟩ : ∃ E,E = obEb (N + 3) zs:=⟨_,rfl⟩
 obtain ⟨M,hM⟩ : ∃ M,M = zs.length + 1:=⟨_,rfl⟩
 have hpE : Past E M:=Past.mk' (by rw [hE,hM,obEb_len])
 have hE0 : ∀ L : List Ob,(E ++ L)[0]? = some (.arr true 9 (rowsEv (N + 3 + 1) zs)):=fun L=>by rw [hE]; rfl
 have hE1 : E[0]? = some (.arr true 9 (rowsEv (N + 3 + 1) zs)):=by rw [hE]; rfl
 rw [← hE]
 have hm1 : ∀ (a b c : Ob) (G3 : List Ob),G3.length = N → ∀ (i : Nat) (ob : Ob),E[i]? = some ob → (a :: (G3 ++ b :: c :: E))[N + 3 + i]? = some ob:=fun a b c G3 h3 i ob hi=>by
  rw [show N + 3 + i = (N + (i + 1 + 1)) + 1 by omega,Zh,Zg (by omega),h3,Zs,Zh,Zh]; exact hi
 have hm2 : ∀ (a b c : Ob) (G3 E3 L : List Ob),G3.length = N → ∀ (i : Nat) (ob : Ob),E3[i]? = some ob → (a :: (G3 ++ b :: c :: (E3 ++ L)))[N + 3 + i]? = some ob:=fun a b c G3 E3 L h3 i ob hi=>by
  rw [show N + 3 + i = (N + (i + 1 + 1)) + 1 by omega,Zh,Zg (by omega),h3,Zs,Zh,Zh,Zt (Zi.1 hi).1]; exact hi
 have hm3 : ∀ (a b c : Ob) (G3 E3 : List Ob),G3.length = N → ∀ (i : Nat) (ob : Ob),E3[i]? = some ob → (a :: (G3 ++ b :: c :: E3))[N + 3 + i]? = some ob:=fun a b c G3 E3 h3 i ob hi=>by
  have:=hm2 a b c G3 E3 [] h3 i ob hi
  rwa [Zj] at this
 have hEv : ∀ m : List Ob,(∀ (i : Nat) (ob : Ob),E[i]? = some ob → m[N + 3 + i]? = some ob) → dcv 2 m (.ar (N + 3) 0 zs.length) = .sl 9 (zs.map encEv):=fun m h=>dcv_evs fun i ob hi=>h i ob (by rw [hE]; exact hi)
 simp only [method_specs_simp,seval,hp.len,hp.g0,hp.g,hp.b0,hp.b,hp.v0,hp.v,hp.a0,hp.a,hp.w0,hp.w,hp.s0,hp.s,Zb,Zc,Za,hE0,hE1]
 refine clY.conD 2 (c_eqEventS zs hz) ?_ ⟨of_eq_true (encEv_refs _ zs),of_eq_true (encEv_refs _ zs),trivial⟩ trivial ?_
 ·show [dcv 2 _ (.ar (N + 3) 0 zs.length),dcv 2 _ (.sl 9 (zs.map encEv))] = _
  rw [hEv _ (hm3 _ _ _ G E hp.len)]
  rfl
 simp only [method_specs_simp,seval,hp.len,hp.g0,hp.g,hp.b0,hp.b,hp.v0,hp.v,hp.a0,hp.a,hp.w0,hp.w,hp.s0,hp.s,Zb,Zc,Za]
 refine ⟨by kernel_rfl,?_⟩
 refine clY.con (c_toGraph g hg) (by simp only [method_specs_simp,hp.len,hp.g0,hp.g,hp.b0,hp.b,hp.v0,hp.v,hp.a0,hp.a,hp.w0,hp.w,hp.s0,hp.s,Zb,Zc,Za]) ?_
 simp only [method_specs_simp,seval,hp.len,hp.g0,hp.g,hp.b0,hp.b,hp.v0,hp.v,hp.a0,hp.a,hp.w0,hp.w,hp.s0,hp.s,Zb,Zc,Za]
 refine clY.conD 3 (c_eqGraph g hg) ?_ ⟨encGr_ref1 _ g,encGr_ref1 _ g,trivial⟩ trivial ?_
 ·show [dcv 3 _ (.agg (grV 1 g)),dcv 3 _ (.agg (encGr g))] = _
  rw [(hL _ _).dcv,dcv_encG]
 simp only [method_specs_simp,seval,hp.len,hp.g0,hp.g,hp.b0,hp.b,hp.v0,hp.v,hp.a0,hp.a,hp.w0,hp.w,hp.s0,hp.s,Zb,Zc,Za,Zd]
 refine clY.con (c_toSpanS l hl) (by simp only [method_specs_simp,hp.len,hp.g0,hp.g,hp.b0,hp.b,hp.v0,hp.v,hp.a0,hp.a,hp.w0,hp.w,hp.s0,hp.s,Zb,Zc,Za]) ?_
 simp only [method_specs_simp,seval,hp.len,hp.g0,hp.g,hp.b0,hp.b,hp.v0,hp.v,hp.a0,hp.a,hp.w0,hp.w,hp.s0,hp.s,Zb,Zc,Za]
 refine clY.conD 1 (c_eqSpanS l (by omega)) ?_ ⟨of_eq_true (encSn_refs _ l),of_eq_true (encSn_refs _ l),trivial⟩ trivial ?_
 ·show [dcv 1 _ (.ar (N + 2) 0 l.length),dcv 1 _ (.sl 2 (l.map encSn))] = _
  rw [dcv_spns]
  rfl
  simp only [method_specs_simp,seval,hp.len,hp.g0,hp.g,hp.b0,hp.b,hp.v0,hp.v,hp.a0,hp.a,hp.w0,hp.w,hp.s0,hp.s,Zb,Zc,Za]
 simp only [method_specs_simp,seval,hp.len,hp.g0,hp.g,hp.b0,hp.b,hp.v0,hp.v,hp.a0,hp.a,hp.w0,hp.w,hp.s0,hp.s,Zb,Zc,Za,Zd]
 have b1:=wM_le g.events
 have b2:=wM_le g.parked
 have b3:=wM_nn g.events
 have b4:=wM_nn g.parked
 have b5:=wM_nn zs
 have hwG : wG g = (g.events.length + wEs g.events) + (g.parked.length + wEs g.parked):=rfl
 have hk : decide (1 + (wM g.events + wM g.parked) + 2 * (l.length : Int) < 0) = false:=decide_eq_false (by omega)
 refine clY.segG1 hG (n_markGraph g 1 (by decide) (by decide) hg (by omega)) (mGr_len 1 g) trivial ⟨trivial,trivial⟩ (fun m=>by simp only [convs,conv]) ?_
 obtain ⟨G2,hG2⟩ : ∃ G2,G2 = obGb 1 (mGr 1 g):=⟨_,rfl⟩
 have hp2 : Past G2 N:=Past.mk' (by rw [hG2,hN,obGb_len]; simp only [mGr,mEvs_len])
 rw [← hG2]
 simp only [method_specs_simp,seval,hk,bne_self_eq_false,Zd,hp2.len,hp2.g0,hp2.g,hp2.b0,hp2.b,hp2.v0,hp2.v,hp2.a0,hp2.a,hp2.w0,hp2.w,hp2.s0,hp2.s,Zb,Zc,Za]
 refine clY.at1 (q:=N + 2) (n_markSpanS l (1 + (wM g.events + wM g.parked)) (by omega) (by omega) (by omega)) ?_ (pure_spns _ _) (pure_spns _ _) trivial ⟨trivial,trivial⟩ (by simp only [convs,conv]) ?_
 ·simp only [method_specs_simp,seval,hk,bne_self_eq_false,Zd,hp2.len,hp2.g0,hp2.g,hp2.b0,hp2.b,hp2.v0,hp2.v,hp2.a0,hp2.a,hp2.w0,hp2.w,hp2.s0,hp2.s,Zb,Zc,Za]
 simp only [method_specs_simp,seval,hk,bne_self_eq_false,Zd,hp2.len,hp2.g0,hp2.g,hp2.b0,hp2.b,hp2.v0,hp2.v,hp2.a0,hp2.a,hp2.w0,hp2.w,hp2.s0,hp2.s,Zb,Zc,Za,hE0,hE1]
 refine clY.conD 2 (c_eqEventS zs hz) ?_ ⟨of_eq_true (encEv_refs _ zs),of_eq_true (encEv_refs _ zs),trivial⟩ trivial ?_
 ·show [dcv 2 _ (.ar (N + 3) 0 zs.length),dcv 2 _ (.sl 9 (zs.map encEv))] = _
  rw [hEv _ (hm3 _ _ _ G2 E hp2.len)]
  rfl
 simp only [method_specs_simp,seval,hk,bne_self_eq_false,Zd,hp2.len,hp2.g0,hp2.g,hp2.b0,hp2.b,hp2.v0,hp2.v,hp2.a0,hp2.a,hp2.w0,hp2.w,hp2.s0,hp2.s,Zb,Zc,Za,hE0,hE1]
 have hAl : ∀ a b c : Ob,(a :: (G2 ++ [b,c])).length = N + 3:=fun a b c=>by rw [Zq,Zv,hp2.len]; rfl
 have hz1:=hz.1
 refine clY.seg (A:=.box true (encGr g) :: (G2 ++ [.box true [V.int IntKind.i64 g.room,V.ar 1 0 g.events.length,V.ar (1 + (g.events.length + 1)) 0 g.parked.length],.arr true 2 ((mSpns (1 + (wM g.events + wM g.parked)) l.length).map encSn)])) (B:=obE zs) (B':=obE (mEvs 1 zs)) (C:=[]) (n_markEventS zs 1 (by decide) (by decide) hz (by omega)) ?_ ?_ ?_ ?_ trivial ?_ ?_ ?_ ?_
 ·rw [obE_len,obE_len,mEvs_len]
 ·exact fun ob ho=>⟨obE_refs _ (by rw [obE_len]; omega) ob ho,obE_alive _ ob ho⟩
 ·exact obE_refs _ (by rw [obE_len,mEvs_len]; omega)
 ·rw [obE_len]; exact ⟨by show 0 < _; omega,trivial,trivial⟩
 ·rw [hAl,obE_ren,← hE,Zj]; simp only [Zc,Zb,Za]
 ·simp only [rens,V.ren,hAl,ZF,Za,Zj]
 ·have:=hm3 (.box true (encGr g)) (.box true [V.int IntKind.i64 g.room,V.ar 1 0 g.events.length,V.ar (1 + (g.events.length + 1)) 0 g.parked.length]) (.arr true 2 ((mSpns (1 + (wM g.events + wM g.parked)) l.length).map encSn)) G2 E hp2.len 0 _ hE1
  rw [ZF] at this
  simp only [convs,conv,Za,Zj,this]
 rw [hAl,obE_ren,Zj]
 obtain ⟨E2,hE2⟩ : ∃ E2,E2 = obEb (N + 3) (mEvs 1 zs):=⟨_,rfl⟩
 have hpE2 : Past E2 M:=Past.mk' (by rw [hE2,hM,obEb_len,mEvs_len])
 have hE3 : ∀ L : List Ob,(E2 ++ L)[0]? = some (.arr true 9 (rowsEv (N + 3 + 1) (mEvs 1 zs))):=fun L=>by rw [hE2]; rfl
 have hE4 : E2[0]? = some (.arr true 9 (rowsEv (N + 3 + 1) (mEvs 1 zs))):=by rw [hE2]; rfl
 have hEv2 : ∀ m : List Ob,(∀ (i : Nat) (ob : Ob),E2[i]? = some ob → m[N + 3 + i]? = some ob) → dcv 2 m (.ar (N + 3) 0 zs.length) = .sl 9 ((mEvs 1 zs).map encEv):=fun m h=>by
  have:=dcv_evs (m:=m) (b:=N + 3) (l:=mEvs 1 zs) fun i ob hi=>h i ob (by rw [hE2]; exact hi)
  rwa [mEvs_len] at this
 have hk3 : decide (1 + wM zs < 0) = false:=decide_eq_false (by omega)
 have hhe:=c_heldEventS (P:=P) zs 1 (by decide) (by decide) hz (by omega)
 rw [← hE2]
 simp only [method_specs_simp,seval,hk,hk3,bne_self_eq_false,Zd,hE3,hE4,hp2.len,hp2.g0,hp2.g,hp2.b0,hp2.b,hp2.v0,hp2.v,hp2.a0,hp2.a,hp2.w0,hp2.w,hp2.s0,hp2.s,Zb,Zc,Za]
 refine clY.conD 2 hhe ?_ ⟨of_eq_true (encEv_refs _ _),trivial,trivial⟩ trivial ?_
 ·show [dcv 2 _ (.ar (N + 3) 0 zs.length),dcv 2 _ (.int .i64 1)] = _
  rw [hEv2 _ (hm3 _ _ _ G2 E2 hp2.len)]
  rfl
 simp only [method_specs_simp,seval,hk,hk3,bne_self_eq_false,Zd,hE3,hE4,hp2.len,hp2.g0,hp2.g,hp2.b0,hp2.b,hp2.v0,hp2.v,hp2.a0,hp2.a,hp2.w0,hp2.w,hp2.s0,hp2.s,Zb,Zc,Za]
 refine clY.con (c_toGraph g hg) (by simp only [method_specs_simp,hk,hk3,bne_self_eq_false,Zd,hE3,hE4,hp2.len,hp2.g0,hp2.g,hp2.b0,hp2.b,hp2.v0,hp2.v,hp2.a0,hp2.a,hp2.w0,hp2.w,hp2.s0,hp2.s,Zb,Zc,Za]) ?_
 simp only [method_specs_simp,seval,hk,hk3,bne_self_eq_false,Zd,hE3,hE4,hp2.len,hp2.g0,hp2.g,hp2.b0,hp2.b,hp2.v0,hp2.v,hp2.a0,hp2.a,hp2.w0,hp2.w,hp2.s0,hp2.s,Zb,Zc,Za]
 refine clY.con (c_toSpanS l hl) (by simp only [method_specs_simp,hk,hk3,bne_self_eq_false,Zd,hE3,hE4,hp2.len,hp2.g0,hp2.g,hp2.b0,hp2.b,hp2.v0,hp2.v,hp2.a0,hp2.a,hp2.w0,hp2.w,hp2.s0,hp2.s,Zb,Zc,Za]) ?_
 simp only [method_specs_simp,seval,hk,hk3,bne_self_eq_false,Zd,hE3,hE4,hp2.len,hp2.g0,hp2.g,hp2.b0,hp2.b,hp2.v0,hp2.v,hp2.a0,hp2.a,hp2.w0,hp2.w,hp2.s0,hp2.s,Zb,Zc,Za]
 have hlen4 : ∀ (a b c : Ob),(a :: (G2 ++ b :: c :: E2)).length = N + 3 + M:=fun a b c=>by simp only [Zq,Zv,hp2.len,hpE2.len]; omega
 refine clY.newD 0 h47 (dcv_zero _ _) ⟨encGr_ref1 _ g,of_eq_true (encSn_refs _ _),trivial⟩ trivial (obE_flat _) ?_
 rw [hlen4,obE_ren]
 obtain ⟨E5,hE5⟩ : ∃ E5,E5 = obEb (N + 3 + M) zs:=⟨_,rfl⟩
 have hm5 : ∀ (a b c : Ob) (i : Nat) (ob : Ob),E5[i]? = some ob → (a :: (G2 ++ b :: c :: (E2 ++ E5)))[N + 3 + M + i]? = some ob:=fun a b c i ob hi=>by
  rw [show N + 3 + M + i = (N + (M + i + 1 + 1)) + 1 by omega,Zh,hp2.g,Zh,Zh,hpE2.g]; exact hi
 have hEv5 : ∀ m : List Ob,(∀ (i : Nat) (ob : Ob),E5[i]? = some ob → m[N + 3 + M + i]? = some ob) → dcv 2 m (.ar (N + 3 + M) 0 zs.length) = .sl 9 (zs.map encEv):=fun m h=>dcv_evs fun i ob hi=>h i ob (by rw [hE5]; exact hi)
 have eM : V.ren (fun q=>N + 3 + M + q) (.ar 0 0 zs.length) = .ar (N + 3 + M) 0 zs.length:=rfl
 rw [← hE5,eM]
 simp only [method_specs_simp,seval,hk,hk3,bne_self_eq_false,Zd,hE3,hE4,hp2.len,hp2.g0,hp2.g,hp2.b0,hp2.b,hp2.v0,hp2.v,hp2.a0,hp2.a,hp2.w0,hp2.w,hp2.s0,hp2.s,Zb,Zc,Za]
 refine clY.conD 2 (c_eqEventS zs hz) ?_ ⟨of_eq_true (encEv_refs _ zs),of_eq_true (encEv_refs _ zs),trivial⟩ trivial ?_
 ·show [dcv 2 _ (.ar (N + 3 + M) 0 zs.length),dcv 2 _ (.sl 9 (zs.map encEv))] = _
  rw [hEv5 _ (hm5 _ _ _)]
  rfl
 simp only [method_specs_simp,seval,hk,hk3,bne_self_eq_false,Zd,hE3,hE4,hp2.len,hp2.g0,hp2.g,hp2.b0,hp2.b,hp2.v0,hp2.v,hp2.a0,hp2.a,hp2.w0,hp2.w,hp2.s0,hp2.s,Zb,Zc,Za]
 refine clY.conD 2 hhe ?_ ⟨of_eq_true (encEv_refs _ _),trivial,trivial⟩ trivial ?_
 ·show [dcv 2 _ (.ar (N + 3) 0 zs.length),dcv 2 _ (.int .i64 1)] = _
  rw [hEv2 _ (hm2 _ _ _ G2 E2 E5 hp2.len)]
  rfl
 simp only [method_specs_simp,seval,hk,hk3,bne_self_eq_false,Zd,hE3,hE4,hp2.len,hp2.g0,hp2.g,hp2.b0,hp2.b,hp2.v0,hp2.v,hp2.a0,hp2.a,hp2.w0,hp2.w,hp2.s0,hp2.s,Zb,Zc,Za]
theorem mt_lawZ (g : Gr) (l : List Spn) (hg : GrOK g) (hl : l.length * 16 ≤ 2 ^ 47) (h46 : Con P 54 [.agg (encGr g),.sl 2 (l.map encSn)] (.sl 9 (([] : List Ev).map encEv))) (h47 : Con P 56 [.agg (encGr g),.sl 2 (l.map encSn)] .nil) :
  Con P 7 [.agg (encGr g),.sl 2 (l.map encSn)] (.bool true):=by
 refine Con.of (n:=92) (rs:=[.tmp 4]) (Is.fn Try.func7) rfl (Is.call Try.call7) Try.results7 Try.ntmps7 trivial ?_
 simp only [method_specs_simp,seval]
 refine clY.con (c_szGraph g 1048576 (by decide) (by decide) hg) (by simp only [method_specs_simp]) ?_
 simp only [method_specs_simp,seval]
 refine gB_split (fun _=>trivial) (fun w1=>?_)
 obtain ⟨q1,q2,q3⟩:=sb_yes (wG_nn g) w1
 rw [q1]
 refine clY.con (c_szSpanS l (1048576 - wG g) q3 (by omega) (by omega)) (by simp only [method_specs_simp]) ?_
 simp only [method_specs_simp,seval]
 refine gB_split (fun _=>trivial) (fun w2=>?_)
 obtain ⟨q4,q5,q6⟩:=sb_yes (w:=(l.length : Int)) (by omega) w2
 refine clY.con (c_toGraph g hg) (by simp only [method_specs_simp]) ?_
 simp only [method_specs_simp,seval]
 refine clY.con (c_toSpanS l hl) (by simp only [method_specs_simp]) ?_
 simp only [method_specs_simp,seval]
 refine clY.con (h46) (by simp only [method_specs_simp]) ?_
 simp only [method_specs_simp,seval]
 refine clY.newD 0 (n_toGraph g hg) (dcv_zero _ _) (by simp only [method_specs_simp]) (grV_flat 0 g) (obG_flat g) ?_
 obtain ⟨G,hG⟩ : ∃ G,G = obGb 1 g:=⟨_,rfl⟩
 obtain ⟨N,hN⟩ : ∃ N,N = g.events.length + 1 + (g.parked.length + 1):=⟨_,rfl⟩
 have hp : Past G N:=Past.mk' (by rw [hG,hN,obGb_len])
 have hA1 : ∀ L : List Ob,(G ++ L)[0]? = some (.arr true 9 (rowsEv 2 g.events)):=fun L=>by rw [hG]; rfl
 have hA2 : ∀ (a : Ob) (L : List Ob),(a :: (G ++ L))[1 + (g.events.length + 1)]? = some (.arr true 9 (rowsEv (1 + (g.events.length + 1) + 1) g.parked)):=fun a L=>by
  rw [hG]; exact obGb_one g a L
 simp only [method_specs_simp,seval,hp.len,hp.g0,hp.g,hp.b0,hp.b,hp.v0,hp.v,hp.a0,hp.a,hp.w0,hp.w,hp.s0,hp.s,Zb,Zc,Za,obG_ren,grV,← hG,hA1,hA2]
 have hL : ∀ (a : Ob) (L : List Ob),LiesG (a :: (G ++ L)) 1 g:=fun a L=>LiesG.mk (A:=[a]) rfl (by rw [hG]; rfl)
 refine clY.new (n_toSpanS l hl) (by simp only [method_specs_simp,hp.len,hp.g0,hp.g,hp.b0,hp.b,hp.v0,hp.v,hp.a0,hp.a,hp.w0,hp.w,hp.s0,hp.s,Zb,Zc,Za]) ?_
 simp only [method_specs_simp,seval,hp.len,hp.g0,hp.g,hp.b0,hp.b,hp.v0,hp.v,hp.a0,hp.a,hp.w0,hp.w,hp.s0,hp.s,Zb,Zc,Za]
 refine clY.conD 3 h47 ?_ ⟨encGr_ref1 _ g,of_eq_true (encSn_refs _ _),trivial⟩ trivial ?_
 ·show [dcv 3 _ (.agg (grV 1 g)),dcv 3 _ (.ar (N + 2) 0 l.length)] = _
  rw [(hL _ _).dcv,dcv_spns]
  simp only [method_specs_simp,seval,hp.len,hp.g0,hp.g,hp.b0,hp.b,hp.v0,hp.v,hp.a0,hp.a,hp.w0,hp.w,hp.s0,hp.s,Zb,Zc,Za]
 simp only [method_specs_simp,seval,hp.len,hp.g0,hp.g,hp.b0,hp.b,hp.v0,hp.v,hp.a0,hp.a,hp.w0,hp.w,hp.s0,hp.s,Zb,Zc,Za]
 refine clY.con (c_eqNilEv) (by simp only [method_specs_simp,hp.len,hp.g0,hp.g,hp.b0,hp.b,hp.v0,hp.v,hp.a0,hp.a,hp.w0,hp.w,hp.s0,hp.s,Zb,Zc,Za]) ?_
 simp only [method_specs_simp,seval,hp.len,hp.g0,hp.g,hp.b0,hp.b,hp.v0,hp.v,hp.a0,hp.a,hp.w0,hp.w,hp.s0,hp.s,Zb,Zc,Za]
 refine ⟨by kernel_rfl,?_⟩
 refine clY.con (c_toGraph g hg) (by simp only [method_specs_simp,hp.len,hp.g0,hp.g,hp.b0,hp.b,hp.v0,hp.v,hp.a0,hp.a,hp.w0,hp.w,hp.s0,hp.s,Zb,Zc,Za]) ?_
 simp only [method_specs_simp,seval,hp.len,hp.g0,hp.g,hp.b0,hp.b,hp.v0,hp.v,hp.a0,hp.a,hp.w0,hp.w,hp.s0,hp.s,Zb,Zc,Za]
 refine clY.conD 3 (c_eqGraph g hg) ?_ ⟨encGr_ref1 _ g,encGr_ref1 _ g,trivial⟩ trivial ?_
 ·show [dcv 3 _ (.agg (grV 1 g)),dcv 3 _ (.agg (encGr g))] = _
  rw [(hL _ _).dcv,dcv_encG]
 simp only [method_specs_simp,seval,hp.len,hp.g0,hp.g,hp.b0,hp.b,hp.v0,hp.v,hp.a0,hp.a,hp.w0,hp.w,hp.s0,hp.s,Zb,Zc,Za,Zd]
 refine clY.con (c_toSpanS l hl) (by simp only [method_specs_simp,hp.len,hp.g0,hp.g,hp.b0,hp.b,hp.v0,hp.v,hp.a0,hp.a,hp.w0,hp.w,hp.s0,hp.s,Zb,Zc,Za]) ?_
 simp only [method_specs_simp,seval,hp.len,hp.g0,hp.g,hp.b0,hp.b,hp.v0,hp.v,hp.a0,hp.a,hp.w0,hp.w,hp.s0,hp.s,Zb,Zc,Za]
 refine clY.conD 1 (c_eqSpanS l (by omega)) ?_ ⟨of_eq_true (encSn_refs _ l),of_eq_true (encSn_refs _ l),trivial⟩ trivial ?_
 ·show [dcv 1 _ (.ar (N + 2) 0 l.length),dcv 1 _ (.sl 2 (l.map encSn))] = _
  rw [dcv_spns]
  rfl
  simp only [method_specs_simp,seval,hp.len,hp.g0,hp.g,hp.b0,hp.b,hp.v0,hp.v,hp.a0,hp.a,hp.w0,hp.w,hp.s0,hp.s,Zb,Zc,Za]
 simp only [method_specs_simp,seval,hp.len,hp.g0,hp.g,hp.b0,hp.b,hp.v0,hp.v,hp.a0,hp.a,hp.w0,hp.w,hp.s0,hp.s,Zb,Zc,Za,Zd]
 have b1:=wM_le g.events
 have b2:=wM_le g.parked
 have b3:=wM_nn g.events
 have b4:=wM_nn g.parked
 have hwG : wG g = (g.events.length + wEs g.events) + (g.parked.length + wEs g.parked):=rfl
 have hk : decide (1 + (wM g.events + wM g.parked) + 2 * (l.length : Int) < 0) = false:=decide_eq_false (by omega)
 refine clY.segG1 hG (n_markGraph g 1 (by decide) (by decide) hg (by omega)) (mGr_len 1 g) trivial ⟨trivial,trivial⟩ (fun m=>by simp only [convs,conv]) ?_
 obtain ⟨G2,hG2⟩ : ∃ G2,G2 = obGb 1 (mGr 1 g):=⟨_,rfl⟩
 have hp2 : Past G2 N:=Past.mk' (by rw [hG2,hN,obGb_len]; simp only [mGr,mEvs_len])
 rw [← hG2]
 simp only [method_specs_simp,seval,hk,bne_self_eq_false,Zd,hp2.len,hp2.g0,hp2.g,hp2.b0,hp2.b,hp2.v0,hp2.v,hp2.a0,hp2.a,hp2.w0,hp2.w,hp2.s0,hp2.s,Zb,Zc,Za]
 refine clY.at1 (q:=N + 2) (n_markSpanS l (1 + (wM g.events + wM g.parked)) (by omega) (by omega) (by omega)) ?_ (pure_spns _ _) (pure_spns _ _) trivial ⟨trivial,trivial⟩ (by simp only [convs,conv]) ?_
 ·simp only [method_specs_simp,seval,hk,bne_self_eq_false,Zd,hp2.len,hp2.g0,hp2.g,hp2.b0,hp2.b,hp2.v0,hp2.v,hp2.a0,hp2.a,hp2.w0,hp2.w,hp2.s0,hp2.s,Zb,Zc,Za]
 simp only [method_specs_simp,seval,hk,bne_self_eq_false,Zd,hp2.len,hp2.g0,hp2.g,hp2.b0,hp2.b,hp2.v0,hp2.v,hp2.a0,hp2.a,hp2.w0,hp2.w,hp2.s0,hp2.s,Zb,Zc,Za]
 refine clY.con (c_eqNilEv) (by simp only [method_specs_simp,hk,bne_self_eq_false,Zd,hp2.len,hp2.g0,hp2.g,hp2.b0,hp2.b,hp2.v0,hp2.v,hp2.a0,hp2.a,hp2.w0,hp2.w,hp2.s0,hp2.s,Zb,Zc,Za]) ?_
 simp only [method_specs_simp,seval,hk,bne_self_eq_false,Zd,hp2.len,hp2.g0,hp2.g,hp2.b0,hp2.b,hp2.v0,hp2.v,hp2.a0,hp2.a,hp2.w0,hp2.w,hp2.s0,hp2.s,Zb,Zc,Za]
 refine clY.con (c_markNilEv 1) (by simp only [method_specs_simp,hk,bne_self_eq_false,Zd,hp2.len,hp2.g0,hp2.g,hp2.b0,hp2.b,hp2.v0,hp2.v,hp2.a0,hp2.a,hp2.w0,hp2.w,hp2.s0,hp2.s,Zb,Zc,Za]) ?_
 simp only [method_specs_simp,seval,hk,bne_self_eq_false,Zd,hp2.len,hp2.g0,hp2.g,hp2.b0,hp2.b,hp2.v0,hp2.v,hp2.a0,hp2.a,hp2.w0,hp2.w,hp2.s0,hp2.s,Zb,Zc,Za]
 refine clY.con (c_heldNilEv 1 (by decide) (by decide)) (by simp only [method_specs_simp,hk,bne_self_eq_false,Zd,hp2.len,hp2.g0,hp2.g,hp2.b0,hp2.b,hp2.v0,hp2.v,hp2.a0,hp2.a,hp2.w0,hp2.w,hp2.s0,hp2.s,Zb,Zc,Za]) ?_
 simp only [method_specs_simp,seval,hk,bne_self_eq_false,Zd,hp2.len,hp2.g0,hp2.g,hp2.b0,hp2.b,hp2.v0,hp2.v,hp2.a0,hp2.a,hp2.w0,hp2.w,hp2.s0,hp2.s,Zb,Zc,Za]
 refine clY.con (c_toGraph g hg) (by simp only [method_specs_simp,hk,bne_self_eq_false,Zd,hp2.len,hp2.g0,hp2.g,hp2.b0,hp2.b,hp2.v0,hp2.v,hp2.a0,hp2.a,hp2.w0,hp2.w,hp2.s0,hp2.s,Zb,Zc,Za]) ?_
 simp only [method_specs_simp,seval,hk,bne_self_eq_false,Zd,hp2.len,hp2.g0,hp2.g,hp2.b0,hp2.b,hp2.v0,hp2.v,hp2.a0,hp2.a,hp2.w0,hp2.w,hp2.s0,hp2.s,Zb,Zc,Za]
 refine clY.con (c_toSpanS l hl) (by simp only [method_specs_simp,hk,bne_self_eq_false,Zd,hp2.len,hp2.g0,hp2.g,hp2.b0,hp2.b,hp2.v0,hp2.v,hp2.a0,hp2.a,hp2.w0,hp2.w,hp2.s0,hp2.s,Zb,Zc,Za]) ?_
 simp only [method_specs_simp,seval,hk,bne_self_eq_false,Zd,hp2.len,hp2.g0,hp2.g,hp2.b0,hp2.b,hp2.v0,hp2.v,hp2.a0,hp2.a,hp2.w0,hp2.w,hp2.s0,hp2.s,Zb,Zc,Za]
 refine clY.con (h47) (by simp only [method_specs_simp,hk,bne_self_eq_false,Zd,hp2.len,hp2.g0,hp2.g,hp2.b0,hp2.b,hp2.v0,hp2.v,hp2.a0,hp2.a,hp2.w0,hp2.w,hp2.s0,hp2.s,Zb,Zc,Za]) ?_
 simp only [method_specs_simp,seval,hk,bne_self_eq_false,Zd,hp2.len,hp2.g0,hp2.g,hp2.b0,hp2.b,hp2.v0,hp2.v,hp2.a0,hp2.a,hp2.w0,hp2.w,hp2.s0,hp2.s,Zb,Zc,Za]
 refine clY.con (c_eqNilEv) (by simp only [method_specs_simp,hk,bne_self_eq_false,Zd,hp2.len,hp2.g0,hp2.g,hp2.b0,hp2.b,hp2.v0,hp2.v,hp2.a0,hp2.a,hp2.w0,hp2.w,hp2.s0,hp2.s,Zb,Zc,Za]) ?_
 simp only [method_specs_simp,seval,hk,bne_self_eq_false,Zd,hp2.len,hp2.g0,hp2.g,hp2.b0,hp2.b,hp2.v0,hp2.v,hp2.a0,hp2.a,hp2.w0,hp2.w,hp2.s0,hp2.s,Zb,Zc,Za]
 refine clY.con (c_heldNilEv 1 (by decide) (by decide)) (by simp only [method_specs_simp,hk,bne_self_eq_false,Zd,hp2.len,hp2.g0,hp2.g,hp2.b0,hp2.b,hp2.v0,hp2.v,hp2.a0,hp2.a,hp2.w0,hp2.w,hp2.s0,hp2.s,Zb,Zc,Za]) ?_
 simp only [method_specs_simp,seval,hk,bne_self_eq_false,Zd,hp2.len,hp2.g0,hp2.g,hp2.b0,hp2.b,hp2.v0,hp2.v,hp2.a0,hp2.a,hp2.w0,hp2.w,hp2.s0,hp2.s,Zb,Zc,Za]
theorem morE_ok (g : Gr) (l : List Spn) (hg : GrOK g) : EvsOK (morE g l) ∧ (morE g l).length ≤ g.events.length:=by
 have h1:=morI_len g l (orderE g.events)
 have h2:=orderE_len g.events
 have h3:=hg.1.1
 refine ⟨⟨by unfold morE; omega,fun e he=>?_⟩,by unfold morE; omega⟩
 unfold morE morI at he
 obtain ⟨id,_,rfl⟩:=ZC.1 he
 exact at_ok hg id
theorem wM_bd : ∀ l : List Ev,(∀ e ∈ l,EvOK e) → wM l ≤ l.length * 17592186044424
 | [],_=>by simp [wM]
 | e :: l,h=>by
   have h1:=wM_bd l fun x hx=>h x (ZX _ hx)
   have h2:=(h e ZL).2
   simp only [wM,Zq]
   omega
theorem morE_w (g : Gr) (l : List Spn) (hg : GrOK g) (hr : Gm.grRight g = true) : wM (morE g l) < 2 ^ 56:=by
 obtain ⟨h1,h2⟩:=morE_ok g l hg
 have h3:=(right_few hr).1
 have h4:=wM_bd _ h1.2
 omega
theorem c_FnExactMoreThan (g : Gr) (l : List Spn) (hg : GrOK g) (hl : l.length * 16 ≤ 2 ^ 47) : Con P 7 [.agg (encGr g),.sl 2 (l.map encSn)] (.bool true):=by
 obtain ⟨h1,h2⟩:=morE_ok g l hg
 cases hr : (Gm.grRight g && spR l) with
 | true =>
  have hr2:=hr
  rw [ZS] at hr2
  exact mt_law g l _ hg hl h1 (morE_w g l hg hr2.1) (c_sMoreThan g l hg hl hr) (n_MoreThan g l hg hl hr2.1 hr2.2)
 | false=>exact mt_lawZ g l hg hl (c_sMoreThanZ g l hg hl hr) (c_MoreThanZ g l hg hl hr)
end
end Go.Proofs.Ytdkgiboofhlilaa
end
section
namespace Go.Proofs.Ytdkgiboofhlilaa
open Go.Pm
open Go.ChangeShapes Go.WideShapes Go.ChangeAt Go.RowKit
set_option maxRecDepth 100000
def tSpan : Ty:=.st [.int .i64,.int .i64]
def tSpans : Ty:=.sl 2 16 tSpan
theorem in_span {xs : List V} (h : In tSpan xs) : ∃ x : Spn,xs = encSn x:=by
 obtain ⟨a,b,rfl,⟨n,rfl,_⟩,c,d,rfl,⟨m,rfl,_⟩,rfl⟩:=h
 exact ⟨⟨n,m⟩,rfl⟩
theorem in_spans {xs : List V} (h : In tSpans xs) : ∃ ns : List Spn,xs = [.sl 2 (ns.map encSn)] ∧ ns.length * 16 ≤ reachBytes:=by
 obtain ⟨rows,rfl,hl,hr⟩:=h
 obtain ⟨ns,rfl⟩:=list_map_ofE (p:=fun a b=>a = encSn b) (fun _ _ h=>h) fun r hr'=>in_span (hr r hr')
 exact ⟨ns,rfl,by simpa using hl⟩
theorem ok_span : OKT Try.prog tSpan 156:=by
 refine ⟨_,Try.underlying156,rfl,Try.underlying2,rfl,Try.underlying2,?_⟩
 all_goals first | kernel_rfl | decide | (show (_ : Nat) = _; kernel_rfl)
theorem ok_spans : OKT Try.prog tSpans 87:=by
 refine ⟨_,Try.underlying87,ok_span,?_,?_,?_⟩
 all_goals first | kernel_rfl | decide | (show (_ : Nat) = _; kernel_rfl)
end Go.Proofs.Ytdkgiboofhlilaa
end
section
namespace Go.Proofs.Ytdkgiboofhlilaa
set_option maxRecDepth 100000
theorem and_mk {a b : Bool} (ha : a = true) (hb : b = true) : (a && b) = true:=by rw [ha,hb]; rfl
theorem p_own : ownKnob Try.prog.godebug = none:=by kernel_rfl
theorem p_laid : laidOutB Try.prog = true:=by kernel_rfl
theorem p_maps : mapsRowed Try.prog = true:=by kernel_rfl
theorem p_stops : (Try.prog.stops == []) = true:=by kernel_rfl
theorem p_knobs : (Try.prog.stopKnobs == []) = true:=by kernel_rfl
theorem p_keys : Try.prog.plainKeys = true:=by kernel_rfl
theorem p_heard : Try.prog.stopsHeard = true:=by kernel_rfl
theorem p_enter : Try.prog.mayEnter = true:=by kernel_rfl
end Go.Proofs.Ytdkgiboofhlilaa
end
