/- Sorting in place, stable: changing places, turning, insertion. Conditions: lengths that fit a machine. Sorting in place, stable: insertion. Conditions: lengths that fit a machine. Sorting in place, stable: merging. Conditions: lengths that fit a machine. (under way) Sorting in place, stable: merging, the general case. Conditions: lengths that fit a machine. Sorting in place, stable: merging, all cases. Conditions: lengths that fit a machine. Sorting in place, stable. Conditions: lengths that fit a machine. The order of a graph's events: by depth, then by place. Conditions: lengths that fit a machine. The order of a graph's events, as the reference reckons it: depth by depth. Conditions: lengths that fit a machine. Live events: made, marked, held against marks. No conditions but lengths and bounds of numbers. One event of a graph, handed back as a copy. No conditions but lengths. The law of EventAt: for every graph and id. No conditions but the sizes that an input has. The abstract machine: the kit's sorts, as contracts on an array of the caller's. The kit's sorts at this program. Rising lists of numbers: the reference's insertion; the library's Compact; the program's sorted. Conditions: lengths that fit a machine. Rising lists of numbers: inserting, sorting and squeezing come to the same. No program in sight. Whether one event of a right graph stands ahead of another: the walk of the program, and of the reference. Conditions: a right graph. Whether one event of a right graph  -/
import Derived.Shelf.SlSortCmp.NoneTotal
import Derived.Shelf.SlLaysF0
import Derived.Shelf.SlLaysM
import Derived.Shelf.SortM.Plain
import Derived.Shelf.SortM.SortNone
import Derived.Test.YtlgeggpcnbbjdaaGreatA4
set_option linter.unusedSimpArgs false
set_option linter.unusedVariables false
set_option maxRecDepth 10000
set_option maxHeartbeats 4000000
open Int renaming ofNat_lt → Za, toNat_natCast → ZB, ofNat_le → Ym
open List renaming length_append → Zb, getElem?_eq_getElem → Zc, append_assoc → Zh, length_map → Zi, take_of_length_le → Zm, mem_of_getElem? → Zn, map_cons → Zp, length_take → Zq, nil_append → Zr, map_append → Zs, take_length → Zt, cons_append → Zu, mem_cons_self → Zv, length_cons → Zw, map_drop → Zx, getElem?_map → Zy, mem_cons → Zz, take_add_one → ZA, map_take → ZD, getD_eq_getElem?_getD → ZE, append_nil → ZF, mem_append → ZG, getElem?_append_right → ZH, replicate → ZI, length_drop → ZJ, drop_eq_nil_of_le → ZK, length_nil → ZL, take_sublist → ZM, pairwise_append → ZN, mem_cons_of_mem → ZO, length_set → ZP, mem_map → ZQ, all_eq_true → ZS, getElem?_set_ne → ZT, drop_sublist → ZU, map_singleton → ZV, getElem?_eq_some_iff → ZW, length_singleton → ZY, getElem?_append_left → ZZ, map_nil → Ya, getElem?_set_self → Yc, take_append_drop → Ye, flatten_cons → Yh, foldl_append → Yk, mem_of_mem_take → Yl, pairwise_map → Yn, mem_filter → Yo, filter_sublist → Yp, length_filter_le → Yq, take → Yr, mem_of_find?_eq_some → Yw, mergeSort_perm → Yx, pairwise_cons → Yz, nodup_append → YA, range → YB, take_zero → YC, nodup_cons → YD, getElem_mem → YE, drop_length → YI, mem_iff_getElem? → YJ, contains_eq_mem → YK, find?_cons → YL, contains_cons → YM, replicate_succ → YN, mem_of_mem_drop → YO, foldl_cons → YP, getElem?_replicate → YR, perm_append_singleton → YS, eq_nil_of_length_eq_zero → YT, pairwise_lt_range → YV, length_erase_of_mem → YW, length_pos_of_mem → YX, drop_eq_getElem_cons → Wa, takeWhile_cons → Wb, getElem?_eq_none → Wc, drop_append_of_le_length → Wd, set_eq_of_length_le → Wf, mem_append_left → Wg, contains_iff_mem → Wi, getElem?_of_mem → Wm, getElem?_zip_eq_some → Wn, replicate_append_replicate → Wq
open Bool renaming not_true → Zd, bne_true → Ze, bne_false → Zf, and_eq_true → ZR, not_eq_true' → Yb, false_eq_true → Yj, or_eq_true → Yv, not_eq_false' → We
open Nat renaming le_refl → Zg, zero_le → Zj, lt_succ_self → Zk, sub_lt_sub_left → Zl, beq → Yd, lt_of_lt_of_le → Yg, zero_add → Yt, zero_mul → Yu, le_trans → Yy, add_mul → YG, one_mul → YH, add_sub_cancel → YU, div_lt_iff_lt_mul → YY, lt_trichotomy → Wh, eq_of_beq_eq_true → Wp
open Option renaming toList_some → ZC, getD_some → Yf, map_some → YQ, isSome_some → Wj, map_eq_some_iff → Wl
open Array renaming getD_eq_getD_getElem? → ZX, getElem?_eq_getElem → Yi, getElem?_eq_some_iff → Ys, length_toList → YF, getElem?_toList → YZ, mem_toList_iff → Wo
section
namespace Go.Proofs.YtlgeggpcnbbjdaaGreat
open Go.Pm
open Go.Gm (LtD ltD StD srtD)
theorem drop_encI (z : List Int) (q : Nat) : ((z.map encI).getD q []).drop 1 = []:=by
 rw [ZE,Zy]
 cases z[q]? <;> rfl
@[method_specs_simp] theorem set_encI (z : List Int) (q : Nat) (y : Int) : (z.map encI).set q (.int .i64 y :: ((z.map encI).getD q []).drop 1) = (z.set q y).map encI:=by
 rw [drop_encI,List.map_set]; rfl
section
variable {P : Program} [Is P]
theorem wadd (a b : Nat) (h : a + b < 2 ^ 62) : IntKind.i64.wrap ((a : Int) + (b : Int)) = ((a + b : Nat) : Int):=by rw [wrap_id (by omega) (by omega)]; rfl
theorem wsub (a b : Nat) (h : a < 2 ^ 62) (h2 : b ≤ a) : IntKind.i64.wrap ((a : Int) - (b : Int)) = ((a - b : Nat) : Int):=by rw [wrap_id (by omega) (by omega)]; omega
theorem wadd1 (a : Nat) (h : a + 1 < 2 ^ 62) : IntKind.i64.wrap ((a : Int) + 1) = ((a + 1 : Nat) : Int):=wadd a 1 h
theorem wsub1 (a : Nat) (h : a < 2 ^ 62) (h2 : 1 ≤ a) : IntKind.i64.wrap ((a : Int) - 1) = ((a - 1 : Nat) : Int):=wsub a 1 h h2
theorem n_swapRange {l l' : List Int} {n a b k : Nat} {A X M Y B : List Int} (c : FuncId) (dl : List Int) (h : l = A ++ (X ++ (M ++ (Y ++ B)))) (h' : l' = A ++ (Y ++ (M ++ (X ++ B))))
  (ha : a = A.length) (hk : k = X.length) (hy : k = Y.length) (hb : b = a + k + M.length) (hn : n = l.length) (hlt : n < 2 ^ 60) :
  LCon P 184 [.ar 0 0 n,.int .i64 a,.int .i64 b,.int .i64 k,.fn c [] [.fptr [.sl 1 (dl.map encI)] 0]] [.arr true 1 (l.map encI)] (.tup []) [.arr true 1 (l'.map encI)]:=by
 have hbk : b + k ≤ n:=by rw [hn,h]; simp only [Zb]; omega
 refine LCon.of (n:=38) (rs:=[]) (Is.fn Tryz.func184) rfl (Is.call Tryz.call184) Tryz.results184 Tryz.ntmps184 ?_
 simp only [method_specs_simp,seval]
 refine SW.while (A:=Nat × List Int) (fun p=>⟨pad 38 [.ar 0 0 n,.int .i64 a,.int .i64 b,.int .i64 k,.fn c [] [.fptr [.sl 1 (dl.map encI)] 0],.junk,.junk,.junk,.junk,.junk,.int .i64 p.1],[.arr true 1 (p.2.map encI)],[.ar 0 0 n,.eptr 0 1 0]⟩)
  (fun p=>k - p.1) (fun p=>p.1 ≤ k ∧ p.2.length = n ∧ p.2 = A ++ ((Y.take p.1 ++ X.drop p.1) ++ (M ++ ((X.take p.1 ++ Y.drop p.1) ++ B)))) (0,l) [0] ⟨Zj _,hn.symm,h⟩ ?_ ?_
 ·simp only [mvcgen_simp,method_specs_simp,seval]
  exact hn
 ·rintro ⟨i,z⟩ ⟨hi,hzl,hz⟩
  simp only at hi hzl hz
  refine CW.sound ?_
  simp only [method_specs_simp,seval,hzl]
  refine gB_split (fun h1=>?_) (fun h1=>?_)
  ·simp only [decide_eq_true_eq,Za] at h1
   obtain ⟨j,hj⟩ : ∃ j,j = b + i:=⟨_,rfl⟩
   obtain ⟨q,hq⟩ : ∃ q,q = a + i:=⟨_,rfl⟩
   have wj : IntKind.i64.wrap ((b : Int) + (i : Int)) = (j : Int):=by rw [hj]; exact wadd b i (by omega)
   have wq : IntKind.i64.wrap ((a : Int) + (i : Int)) = (q : Int):=by rw [hq]; exact wadd a i (by omega)
   have wi : IntKind.i64.wrap ((i : Int) + 1) = ((i + 1 : Nat) : Int):=wadd1 i (by omega)
   simp only [wj,wq]
   obtain ⟨x,hx1,hx2,hx3⟩:=Gm.drop_next (l:=X) (i:=i) (by omega)
   obtain ⟨y,hy1,hy2,hy3⟩:=Gm.drop_next (l:=Y) (i:=i) (by omega)
   have hz2 : z = (A ++ Y.take i) ++ x :: ((X.drop (i + 1) ++ (M ++ X.take i)) ++ y :: (Y.drop (i + 1) ++ B)):=by rw [hz,hx2,hy2]; simp only [Zh,Zu]
   have lx : (X.take i).length = i:=by rw [Zq]; omega
   have ly : (Y.take i).length = i:=by rw [Zq]; omega
   obtain ⟨g1,g2,g3,_⟩:=Gm.two_get (i:=q) (j:=j) hz2 (by rw [Zb]; omega) (by simp only [Zb,ZJ]; omega)
   refine ⟨by kernel_rfl,by omega,by omega,?_⟩
   simp only [method_specs_simp,seval,g1,g2,encI,wj,wq]
   refine ⟨by omega,by omega,by omega,by omega,by omega,by omega,?_⟩
   rw [wi]
   refine ⟨by omega,by rw [ZP]; omega,?_⟩
   refine Again.mk (i + 1,(z.set q y).set j x) [0] ⟨h1,by simp only [ZP]; exact hzl,?_⟩ (Zl h1 (Zk _)) ?_
   ·show (z.set q y).set j x = A ++ ((Y.take (i + 1) ++ X.drop (i + 1)) ++ (M ++ ((X.take (i + 1) ++ Y.drop (i + 1)) ++ B)))
    rw [g3,hx3,hy3]
    simp only [Zh,Zu,Zr]
   ·simp only [mvcgen_simp,method_specs_simp,seval]
  ·have e : i = k:=by simp only [decide_eq_false_iff_not,Zd,Za] at h1; omega
   have e2 : z = l':=by
    rw [hz,h',e,ZK (by omega),ZK (by omega),Zm (by omega),Zm (by omega)]
    simp only [ZF]
   refine LResY.mk [0] ?_
   simp only [mvcgen_simp,method_specs_simp,seval,e2,hn]
theorem n_rotate {l l' : List Int} {n a m b : Nat} {A X Y B : List Int} (c : FuncId) (dl : List Int) (h : l = A ++ (X ++ (Y ++ B))) (h' : l' = A ++ (Y ++ (X ++ B)))
  (ha : a = A.length) (hm : m = a + X.length) (hb : b = m + Y.length) (hX : X ≠ []) (hY : Y ≠ []) (hn : n = l.length) (hlt : n < 2 ^ 60) :
  LCon P 172 [.ar 0 0 n,.int .i64 a,.int .i64 m,.int .i64 b,.fn c [] [.fptr [.sl 1 (dl.map encI)] 0]] [.arr true 1 (l.map encI)] (.tup []) [.arr true 1 (l'.map encI)]:=by
 have hbn : b ≤ n:=by rw [hn,h]; simp only [Zb]; omega
 have w1 : IntKind.i64.wrap ((m : Int) - (a : Int)) = (X.length : Int):=by rw [wsub m a (by omega) (by omega)]; omega
 have w2 : IntKind.i64.wrap ((b : Int) - (m : Int)) = (Y.length : Int):=by rw [wsub b m (by omega) (by omega)]; omega
 have x1 : 1 ≤ X.length:=by cases X with | nil=>exact absurd rfl hX | cons _ _=>simp
 have y1 : 1 ≤ Y.length:=by cases Y with | nil=>exact absurd rfl hY | cons _ _=>simp
 refine LCon.of (n:=58) (rs:=[]) (Is.fn Tryz.func172) rfl (Is.call Tryz.call172) Tryz.results172 Tryz.ntmps172 ?_
 simp only [method_specs_simp,seval,w1,w2]
 refine SW.while (A:=Nat × Nat × List Int) (fun p=>⟨pad 58 [.ar 0 0 n,.int .i64 a,.int .i64 m,.int .i64 b,.fn c [] [.fptr [.sl 1 (dl.map encI)] 0],.junk,.junk,.junk,.junk,.junk,.int .i64 p.1,.int .i64 p.2.1],[.arr true 1 (p.2.2.map encI)],[.ar 0 0 n,.eptr 0 1 0]⟩)
  (fun p=>p.1 + p.2.1) (fun p=>1 ≤ p.1 ∧ 1 ≤ p.2.1 ∧ p.2.2.length = n ∧ ∃ C D E F,p.2.2 = C ++ (D ++ (E ++ F)) ∧ l' = C ++ (E ++ (D ++ F)) ∧ p.1 = D.length ∧ p.2.1 = E.length ∧ m = C.length + p.1) (X.length,Y.length,l) [0]
  ⟨x1,y1,hn.symm,A,X,Y,B,h,h',rfl,rfl,by rw [hm,ha]⟩ ?_ ?_
 ·simp only [mvcgen_simp,method_specs_simp,seval]
  exact hn
 ·rintro ⟨i,j,z⟩ ⟨hi,hj,hzl,C,D,E,F,hz,hz',hD,hE,hm'⟩
  simp only at hi hj hzl hz hD hE hm'
  have hlen : z.length = C.length + (D.length + (E.length + F.length)):=by rw [hz]; simp only [Zb]
  have wi : IntKind.i64.wrap ((m : Int) - (i : Int)) = ((m - i : Nat) : Int):=wsub m i (by omega) (by omega)
  refine CW.sound ?_
  simp only [method_specs_simp,seval,hzl]
  by_cases hij : i = j
  ·have hne : ((i : Int) != (j : Int)) = false:=by rw [hij]; simp
   simp only [method_specs_simp,seval,hne,wi]
   refine clY.live [0] [] (n_swapRange (n:=n) (a:=m - i) (b:=m) (k:=i) (l:=z) (l':=l') (A:=C) (X:=D) (M:=[]) (Y:=E) (B:=F) c dl hz hz' (by omega) hD (by omega) (by simp only [ZL]; omega) hzl.symm hlt) ?_ (by simp) ?_
   ·simp only [mvcgen_simp,method_specs_simp,seval]
   simp only [method_specs_simp,seval]
   refine LResY.mk [0] ?_
   simp only [mvcgen_simp,method_specs_simp,seval,hn]
  ·have hne : ((i : Int) != (j : Int)) = true:=by simp only [bne_iff_ne,ne_eq]; omega
   simp only [method_specs_simp,seval,hne]
   refine gB_split (fun h1=>?_) (fun h1=>?_)
   ·simp only [decide_eq_true_eq,gt_iff_lt,Za] at h1
    have e1 : D = D.take j ++ D.drop j:=(Ye _ _).symm
    have l1 : (D.take j).length = j:=by rw [Zq]; omega
    have l2 : (D.drop j).length = i - j:=by rw [ZJ]; omega
    have wij : IntKind.i64.wrap ((i : Int) - (j : Int)) = ((i - j : Nat) : Int):=wsub i j (by omega) (by omega)
    rw [wi]
    refine clY.live [0] [] (n_swapRange (n:=n) (a:=m - i) (b:=m) (k:=j) (l:=z) (l':=C ++ (E ++ (D.drop j ++ (D.take j ++ F)))) (A:=C) (X:=D.take j) (M:=D.drop j) (Y:=E) (B:=F) c dl (by rw [hz,← Zh (D.take j),← e1]) rfl (by omega) l1.symm hE (by omega) hzl.symm hlt) ?_ (by simp) ?_
    ·simp only [mvcgen_simp,method_specs_simp,seval]
    simp only [method_specs_simp,seval,wij]
    refine Again.mk (i - j,j,_) [0] ⟨by show 1 ≤ i - j; omega,hj,?_,C ++ E,D.drop j,D.take j,F,by rw [Zh],?_,l2.symm,l1.symm,?_⟩ ?_ ?_
    ·show (C ++ (E ++ (D.drop j ++ (D.take j ++ F)))).length = n
     simp only [Zb,l1,l2]; omega
    ·rw [hz']
     conv=>lhs; rw [e1]
     simp only [Zh]
    ·show m = (C ++ E).length + (i - j)
     simp only [Zb]; omega
    ·show i - j + j < i + j; omega
    ·simp only [mvcgen_simp,method_specs_simp,seval]
   ·simp only [decide_eq_false_iff_not,Zd,gt_iff_lt,Za] at h1
    have e1 : E = E.take (j - i) ++ E.drop (j - i):=(Ye _ _).symm
    have l1 : (E.take (j - i)).length = j - i:=by rw [Zq]; omega
    have l2 : (E.drop (j - i)).length = i:=by rw [ZJ]; omega
    have wji : IntKind.i64.wrap ((j : Int) - (i : Int)) = ((j - i : Nat) : Int):=wsub j i (by omega) (by omega)
    have wmj : IntKind.i64.wrap (IntKind.i64.wrap ((m : Int) + (j : Int)) - (i : Int)) = ((m + j - i : Nat) : Int):=by rw [wadd m j (by omega)]; exact wsub (m + j) i (by omega) (by omega)
    rw [wi,wmj]
    refine clY.live [0] [] (n_swapRange (n:=n) (a:=m - i) (b:=m + j - i) (k:=i) (l:=z) (l':=C ++ (E.drop (j - i) ++ (E.take (j - i) ++ (D ++ F)))) (A:=C) (X:=D) (M:=E.take (j - i)) (Y:=E.drop (j - i)) (B:=F) c dl (by rw [hz,← Zh (E.take (j - i)),← e1]) rfl (by omega) hD l2.symm (by omega) hzl.symm hlt) ?_ (by simp) ?_
    ·simp only [mvcgen_simp,method_specs_simp,seval]
    simp only [method_specs_simp,seval,wji]
    refine Again.mk (i,j - i,_) [0] ⟨hi,by show 1 ≤ j - i; omega,?_,C,E.drop (j - i),E.take (j - i),D ++ F,rfl,?_,l2.symm,l1.symm,hm'⟩ ?_ ?_
    ·show (C ++ (E.drop (j - i) ++ (E.take (j - i) ++ (D ++ F)))).length = n
     simp only [Zb,l1,l2]; omega
    ·rw [hz']
     conv=>lhs; rw [e1]
     simp only [Zh]
    ·show i + (j - i) < i + j; omega
    ·simp only [mvcgen_simp,method_specs_simp,seval]
theorem n_insert {l l' : List Int} {n a b : Nat} {A X B : List Int} {d : Int → Int} (c : FuncId) (dl : List Int) (hcmp : ∀ x ∈ X,∀ y ∈ X,Con P c [.int .i64 x,.int .i64 y,.fptr [.sl 1 (dl.map encI)] 0] (.int .i64 (cmpI (d x) (d y))))
  (h : l = A ++ (X ++ B)) (h' : l' = A ++ (srtD d X ++ B)) (ha : a = A.length) (hb : b = a + X.length) (hs : StD d X) (hn : n = l.length) (hlt : n < 2 ^ 60) :
  LCon P 156 [.ar 0 0 n,.int .i64 a,.int .i64 b,.fn c [] [.fptr [.sl 1 (dl.map encI)] 0]] [.arr true 1 (l.map encI)] (.tup []) [.arr true 1 (l'.map encI)]:=by
 have hbn : b ≤ n:=by rw [hn,h]; simp only [Zb]; omega
 have wa : IntKind.i64.wrap ((a : Int) + 1) = ((a + 1 : Nat) : Int):=wadd1 a (by omega)
 refine LCon.of (n:=53) (rs:=[]) (Is.fn Tryz.func156) rfl (Is.call Tryz.call156) Tryz.results156 Tryz.ntmps156 ?_
 simp only [method_specs_simp,seval,wa]
 refine SW.while (A:=Nat × List Int) (fun p=>⟨pad 53 [.ar 0 0 n,.int .i64 a,.int .i64 b,.fn c [] [.fptr [.sl 1 (dl.map encI)] 0],.junk,.junk,.junk,.junk,.int .i64 p.1],[.arr true 1 (p.2.map encI)],[.ar 0 0 n,.eptr 0 1 0]⟩)
  (fun p=>b + 1 - p.1) (fun p=>a + 1 ≤ p.1 ∧ (p.1 ≤ b ∨ p.1 = a + 1) ∧ p.2.length = n ∧ p.2 = A ++ (srtD d (X.take (p.1 - a)) ++ (X.drop (p.1 - a) ++ B))) (a + 1,l) [0] ⟨Zg _,.inr rfl,hn.symm,?_⟩ ?_ ?_
 ·show l = A ++ (srtD d (X.take (a + 1 - a)) ++ (X.drop (a + 1 - a) ++ B))
  rw [h,show a + 1 - a = 1 by omega]
  cases X <;> rfl
 ·simp only [mvcgen_simp,method_specs_simp,seval]
  try exact hn
 ·rintro ⟨i,z⟩ ⟨hk1,hk2,hzl,hz⟩
  simp only at hk1 hk2 hzl hz
  obtain ⟨k,hk⟩ : ∃ k,k = i - a:=⟨_,rfl⟩
  rw [← hk] at hz
  refine CW.sound ?_
  simp only [method_specs_simp,seval,hzl]
  refine gB_split (fun h1=>?_) (fun h1=>?_)
  ·simp only [decide_eq_true_eq,Za] at h1
   obtain ⟨x,hx1,hx2,hx3⟩:=Gm.drop_next (l:=X) (i:=k) (by omega)
   have hSl : (srtD d (X.take k)).length = k:=by rw [Gm.srtD_len,Zq]; omega
   refine SW.while (A:=Nat × List Int) (fun p=>⟨pad 53 [.ar 0 0 n,.int .i64 a,.int .i64 b,.fn c [] [.fptr [.sl 1 (dl.map encI)] 0],.junk,.junk,.junk,.junk,.int .i64 i,.int .i64 p.1],[.arr true 1 (p.2.map encI)],[.ar 0 0 n,.eptr 0 1 0]⟩)
    (fun p=>p.1) (fun p=>p.2.length = n ∧ ∃ S1 S2,srtD d (X.take k) = S1 ++ S2 ∧ p.2 = A ++ (S1 ++ x :: (S2 ++ (X.drop (k + 1) ++ B))) ∧ p.1 = a + S1.length ∧ ∀ y ∈ S2,LtD d x y) (i,z) [0] ⟨hzl,srtD d (X.take k),[],by simp,?_,?_,by simp⟩ ?_ ?_
   ·show z = _
    rw [hz,hx2]; rfl
   ·show i = a + (srtD d (X.take k)).length
    omega
   ·simp only [mvcgen_simp,method_specs_simp,seval]
   ·rintro ⟨j,z2⟩ ⟨hzl2,S1,S2,hS,hz2,hj,hS2⟩
    simp only at hzl2 hz2 hj
    have hS1 : S1.length + S2.length = k:=by rw [← Zb,← hS]; exact hSl
    have hsx : StD d (X.take (k + 1)):=hs.sub (ZM _ _)
    have hsS : (S1 ++ S2).Pairwise (LtD d):=by rw [← hS]; exact Gm.srtD_sorted (hs.sub (ZM _ _)).nodup
    have hmem : ∀ y ∈ S1 ++ S2,y ∈ X.take k:=fun y hy=>(Gm.srtD_perm d _).subset (by rw [hS]; exact hy)
    have fin : (∀ y ∈ S1,LtD d y x) → S1 ++ x :: S2 = srtD d (X.take (k + 1)):=fun h1=>by
     refine Gm.srtD_of ?_ ?_
     ·rw [hx3]
      refine List.perm_middle.trans (((Gm.srtD_perm d (X.take k)).symm.trans (by rw [hS])).symm.cons x |>.trans ?_)
      exact (YS x _).symm
     ·have hp:=ZN.1 hsS
      refine ZN.2 ⟨hp.1,Yz.2 ⟨hS2,hp.2.1⟩,fun y hy z hz=>?_⟩
      rcases Zz.1 hz with rfl | hz
      ·exact h1 y hy
      ·exact hp.2.2 y hy z hz
    have fin2 : (∀ y ∈ S1,LtD d y x) → z2 = A ++ (srtD d (X.take (i + 1 - a)) ++ (X.drop (i + 1 - a) ++ B)):=fun h1=>by
     rw [hz2,show i + 1 - a = k + 1 by omega,← fin h1]
     simp only [Zh,Zu]
    have wi : IntKind.i64.wrap ((i : Int) + 1) = ((i + 1 : Nat) : Int):=wadd1 i (by omega)
    refine CW.sound ?_
    simp only [method_specs_simp,seval,hzl2,wi]
    refine ⟨by kernel_rfl,?_⟩
    refine gB_split (fun h2=>?_) (fun h2=>?_)
    ·simp only [decide_eq_true_eq,gt_iff_lt,Za] at h2
     obtain ⟨S3,y,rfl⟩ : ∃ S3 y,S1 = S3 ++ [y]:=by
      rcases List.eq_nil_or_concat S1 with rfl | ⟨S3,y,rfl⟩
      ·simp at hj; omega
      ·exact ⟨S3,y,by simp⟩
     rw [Zb,ZY] at hj hS1
     have hz3 : z2 = (A ++ S3) ++ y :: ([] ++ x :: (S2 ++ (X.drop (k + 1) ++ B))):=by rw [hz2]; simp only [Zh,Zu,Zr]
     obtain ⟨q,hq⟩ : ∃ q,q = j - 1:=⟨_,rfl⟩
     have wq : IntKind.i64.wrap ((j : Int) - 1) = (q : Int):=by rw [hq]; exact wsub1 j (by omega) (by omega)
     obtain ⟨g1,g2,_,g3⟩:=Gm.two_get (i:=q) (j:=j) hz3 (by rw [Zb]; omega) (by simp only [Zb,ZL]; omega)
     have hyX : y ∈ X.take k:=hmem y (by simp)
     refine ⟨by omega,by omega,?_⟩
     simp only [method_specs_simp,seval,g1,g2,encI,wq]
     refine ⟨by omega,by omega,?_⟩
     have hc0:=hcmp x (Zn hx1) y (Yl hyX)
     have hle : decide (cmpI (d x) (d y) < 0) = ltD d x y:=by
      rw [← Gm.behind (x:=y) (y:=x)]
      ·unfold cmpI
       split
       ·rename_i h5; simp [h5]
       ·rename_i h5
        split <;> simp [h5]
      ·intro he
       rw [hx3] at hsx
       exact (ZN.1 hsx).2.2 y hyX x (by simp) he
     refine clY.conC hc0 rfl (by simp only [method_specs_simp]) ?_
     simp only [method_specs_simp,seval,hle,wq]
     refine gB_split (fun h5=>?_) (fun h5=>?_)
     ·refine ⟨by kernel_rfl,by omega,by omega,?_⟩
      simp only [method_specs_simp,seval,g1,g2,encI,wq]
      refine ⟨by omega,by omega,by omega,by omega,by omega,by omega,by omega,by (try rw [ZP]); omega,?_⟩
      refine Again.mk (q,(z2.set j y).set q x) [0] ⟨by simp only [ZP]; exact hzl2,S3,y :: S2,hS.trans (by simp),?_,?_,?_⟩ (by show q < j; omega) ?_
      ·show (z2.set j y).set q x = _
       rw [g3]
       simp only [Zh,Zu,Zr]
      ·show q = a + S3.length; omega
      ·intro y' hy'
       rcases Zz.1 hy' with rfl | hy'
       ·exact h5
       ·exact hS2 y' hy'
      ·simp only [mvcgen_simp,method_specs_simp,seval]
     ·have hlast : ∀ y' ∈ S3 ++ [y],LtD d y' x:=by
       have hyx : LtD d y x:=Gm.ltD_tot (fun e=>by
        rw [hx3] at hsx
        have:=(ZN.1 hsx).2.2 y hyX x (by simp) (by rw [e])
        omega) (by unfold LtD; rw [h5]; decide)
       intro y' hy'
       rcases ZG.1 hy' with hy' | hy'
       ·have hp:=ZN.1 (ZN.1 hsS).1
        exact (Gm.ltD_str d).tr _ _ _ (hp.2.2 y' hy' y (by simp)) hyx
       ·simp only [Zz,List.not_mem_nil,or_false] at hy'
        rw [hy']; exact hyx
      rw [wi]
      refine Again.mk (i + 1,z2) [0] ⟨by show a + 1 ≤ i + 1; omega,.inl (by show i + 1 ≤ b; omega),hzl2,fin2 hlast⟩ (by show b + 1 - (i + 1) < b + 1 - i; omega) ?_
      simp only [mvcgen_simp,method_specs_simp,seval]
    ·have hn0 : S1 = []:=by
      simp only [decide_eq_false_iff_not,Zd,gt_iff_lt,Za] at h2
      exact YT (by omega)
     refine Again.mk (i + 1,z2) [0] ⟨by show a + 1 ≤ i + 1; omega,.inl (by show i + 1 ≤ b; omega),hzl2,fin2 (by rw [hn0]; simp)⟩ (by show b + 1 - (i + 1) < b + 1 - i; omega) ?_
     simp only [mvcgen_simp,method_specs_simp,seval]
  ·have e2 : z = l':=by
    simp only [decide_eq_false_iff_not,Zd,Za] at h1
    rw [hz,h',Zm (by omega),ZK (by omega)]; rfl
   refine LResY.mk [0] ?_
   simp only [mvcgen_simp,method_specs_simp,seval,e2,hn]
end
structure MG (P : Program) (d : Int → Int) (c : FuncId) (dl : List Int) (l l' : List Int) (n a m b : Nat) (A L R B : List Int) : Prop where
 h : l = A ++ (L ++ (R ++ B))
 h' : l' = A ++ (srtD d (L ++ R) ++ B)
 ha : a = A.length
 hm : m = a + L.length
 hb : b = m + R.length
 l1 : 1 ≤ L.length
 r1 : 1 ≤ R.length
 hL : L.Pairwise (LtD d)
 hR : R.Pairwise (LtD d)
 hs : StD d (L ++ R)
 hc : ∀ x ∈ L ++ R,∀ y ∈ L ++ R,Con P c [.int .i64 x,.int .i64 y,.fptr [.sl 1 (dl.map encI)] 0] (.int .i64 (cmpI (d x) (d y)))
 hn : n = l.length
 hlt : n < 2 ^ 60
theorem MG.cmp {P : Program} {d : Int → Int} {c : FuncId} {dl l l' : List Int} {n a m b : Nat} {A L R B : List Int} (g : MG P d c dl l l' n a m b A L R B) {x y : Int} (hx : x ∈ L) (hy : y ∈ R) : decide (cmpI (d y) (d x) < 0) = ltD d y x:=by
 have h2 : d x = d y → x < y:=(ZN.1 g.hs).2.2 x hx y hy
 rw [← Gm.behind h2]
 unfold cmpI
 split
 ·rename_i h5; simp [h5]
 ·rename_i h5
  split <;> simp [h5]
theorem MG.bn {P : Program} {d : Int → Int} {c : FuncId} {dl l l' : List Int} {n a m b : Nat} {A L R B : List Int} (g : MG P d c dl l l' n a m b A L R B) : b ≤ n:=by
 have:=g.ha; have:=g.hm; have:=g.hb
 rw [g.hn,g.h]; simp only [Zb]; omega
section
variable {P : Program} [Is P]
theorem mid_at (i j : Nat) (h : i + j < 2 ^ 62) : IntKind.i64.wrap ((IntKind.u64.wrap (IntKind.i64.wrap ((i : Int) + (j : Int)))).fdiv (2 ^ min 1 IntKind.u64.bits)) = (((i + j) / 2 : Nat) : Int):=by
 have e1 : IntKind.i64.wrap ((i : Int) + j) = (i : Int) + j:=wrap_id (by omega) (by omega)
 have e2 : IntKind.u64.wrap ((i : Int) + j) = (i : Int) + j:=by simp [IntKind.wrap,IntKind.bits,IntKind.signed]; omega
 have e3 : ((i : Int) + j).fdiv (2 ^ min 1 IntKind.u64.bits) = (((i + j) / 2 : Nat) : Int):=by
  simp only [IntKind.bits]
  rw [Int.fdiv_eq_ediv_of_nonneg _ (by decide)]
  show ((i : Int) + j) / 2 = _
  omega
 rw [e1,e2,e3]
 exact wrap_id (by omega) (by omega)
theorem n_sym1 {d : Int → Int} (c : FuncId) (dl : List Int) {l l' : List Int} {n a m b : Nat} {A L R B : List Int} (g : MG P d c dl l l' n a m b A L R B) (c1 : L.length = 1) :
  LCon P 157 [.ar 0 0 n,.int .i64 a,.int .i64 m,.int .i64 b,.fn c [] [.fptr [.sl 1 (dl.map encI)] 0]] [.arr true 1 (l.map encI)] (.tup []) [.arr true 1 (l'.map encI)]:=by
  have bn:=g.bn
  have e1:=g.ha
  have e2:=g.hm
  have e3:=g.hb
  have e4:=g.hlt
  have w1 : IntKind.i64.wrap ((m : Int) - (a : Int)) = (L.length : Int):=by rw [wsub m a (by omega) (by omega)]; omega
  have w2 : IntKind.i64.wrap ((b : Int) - (m : Int)) = (R.length : Int):=by rw [wsub b m (by omega) (by omega)]; omega
  refine LCon.of (n:=220) (rs:=[]) (Is.fn Tryz.func157) rfl (Is.call Tryz.call157) Tryz.results157 Tryz.ntmps157 ?_
  simp only [method_specs_simp,seval,w1,w2]
  have d1 : ((L.length : Int) == 1) = true:=by rw [c1]; rfl
  simp only [method_specs_simp,seval,d1]
  obtain ⟨x,rfl⟩ : ∃ x,L = [x]:=by
   match L,c1 with
   | [x],_=>exact ⟨x,rfl⟩
  have hln:=g.hn.symm
  have hlx : l[a]? = some x:=by rw [g.h,e1]; exact Gm.get_mid _ _ _
  refine SW.while (A:=Nat × Nat) (fun p=>⟨pad 220 [.ar 0 0 n,.int .i64 a,.int .i64 m,.int .i64 b,.fn c [] [.fptr [.sl 1 (dl.map encI)] 0],.junk,.junk,.junk,.junk,.junk,.int .i64 p.1,.int .i64 p.2],[.arr true 1 (l.map encI)],[.ar 0 0 n,.eptr 0 1 0]⟩)
   (fun p=>p.2 - p.1) (fun p=>m ≤ p.1 ∧ p.1 ≤ p.2 ∧ p.2 ≤ b ∧ (p.1 = m ∨ ∃ y,R[p.1 - 1 - m]? = some y ∧ LtD d y x) ∧ (p.2 = b ∨ ∃ y,R[p.2 - m]? = some y ∧ LtD d x y)) (m,b) [0] ⟨Zg _,by show m ≤ b; omega,Zg _,.inl rfl,.inl rfl⟩ ?_ ?_
  ·simp only [mvcgen_simp,method_specs_simp,seval]
   try exact hln.symm
  ·rintro ⟨i,j⟩ ⟨hi,hij,hj,p1,p2⟩
   simp only at hi hij hj p1 p2
   refine CW.sound ?_
   simp only [method_specs_simp,seval,hln]
   refine gB_split (fun h1=>?_) (fun h1=>?_)
   ·simp only [decide_eq_true_eq,Za] at h1
    obtain ⟨k,hk⟩ : ∃ k,k = (i + j) / 2:=⟨_,rfl⟩
    have wk : IntKind.i64.wrap ((IntKind.u64.wrap (IntKind.i64.wrap ((i : Int) + (j : Int)))).fdiv (2 ^ min 1 IntKind.u64.bits)) = (k : Int):=by rw [hk]; exact mid_at i j (by omega)
    have wk1 : IntKind.i64.wrap ((k : Int) + 1) = ((k + 1 : Nat) : Int):=wadd1 k (by omega)
    obtain ⟨y,hy⟩ : ∃ y,R[k - m]? = some y:=⟨_,Zc (by omega)⟩
    have hly : l[k]? = some y:=by
     rw [g.h,ZH (by omega),ZH (by simp only [ZY]; simp only [ZY] at e2; omega),ZZ (by simp only [ZY] at e2 ⊢; omega),← hy]
     congr 1
     simp only [ZY] at e2 ⊢; omega
    simp only [wk]
    refine ⟨by kernel_rfl,by omega,by omega,?_⟩
    simp only [method_specs_simp,seval,hly,hlx,encI,wk]
    refine ⟨by omega,by omega,?_⟩
    have hyR : y ∈ R:=Zn hy
    have hle:=g.cmp (x:=x) (y:=y) (by simp) hyR
    refine clY.conC (g.hc y (by simp [hyR]) x (by simp)) rfl (by simp only [method_specs_simp]) ?_
    simp only [method_specs_simp,seval,hle,wk1]
    refine gB_split (fun h2=>?_) (fun h2=>?_)
    ·refine Again.mk (k + 1,j) [0] ⟨by show m ≤ k + 1; omega,by show k + 1 ≤ j; omega,hj,.inr ⟨y,by show R[k + 1 - 1 - m]? = some y; rw [← hy,YU],h2⟩,p2⟩ (by show j - (k + 1) < j - i; omega) ?_
     simp only [mvcgen_simp,method_specs_simp,seval]
    ·have hne : x ≠ y:=fun e=>by
      have hnd:=g.hs.nodup
      rw [YA] at hnd
      exact hnd.2.2 x (by simp) y hyR e
     refine Again.mk (i,k) [0] ⟨hi,by show i ≤ k; omega,by show k ≤ b; omega,p1,.inr ⟨y,hy,Gm.ltD_tot (fun e=>hne e.symm) (by unfold LtD; rw [h2]; decide)⟩⟩ (by show k - i < j - i; omega) ?_
     simp only [mvcgen_simp,method_specs_simp,seval]
   ·have hij2 : i = j:=by simp only [decide_eq_false_iff_not,Zd,Za] at h1; omega
    subst hij2
    simp only [ZY] at e2
    obtain ⟨t,ht⟩ : ∃ t,t = i - m:=⟨_,rfl⟩
    obtain ⟨u,hu⟩ : ∃ u,u = a + t:=⟨_,rfl⟩
    have wt : IntKind.i64.wrap ((i : Int) - 1) = (u : Int):=by rw [wsub1 i (by omega) (by omega)]; congr 1; omega
    have c2:=Gm.cut_one g.hR (x:=x) (t:=t) (p1.elim (fun h=>.inl (by omega)) fun ⟨y,h3,h4⟩=>.inr ⟨y,by rw [← h3]; congr 1; omega,h4⟩) (p2.elim (fun h=>.inl (by omega)) fun ⟨y,h3,h4⟩=>.inr ⟨y,by rw [← h3]; congr 1,h4⟩)
    have hfin : l' = A ++ ((R.take t ++ x :: R.drop t) ++ B):=by rw [g.h',← Gm.srtD_of (l:=[x] ++ R) c2.2 c2.1]
    refine SW.while (A:=Nat × List Int) (fun p=>⟨pad 220 [.ar 0 0 n,.int .i64 a,.int .i64 m,.int .i64 b,.fn c [] [.fptr [.sl 1 (dl.map encI)] 0],.junk,.junk,.junk,.junk,.junk,.int .i64 i,.junk,.junk,.int .i64 p.1],[.arr true 1 (p.2.map encI)],[.ar 0 0 n,.eptr 0 1 0]⟩)
     (fun p=>b - p.1) (fun p=>p.2.length = n ∧ a ≤ p.1 ∧ p.1 ≤ u ∧ p.2 = A ++ (R.take (p.1 - a) ++ x :: (R.drop (p.1 - a) ++ B))) (a,l) [0] ⟨hln,Zg _,by show a ≤ u; omega,by show l = A ++ (R.take (a - a) ++ x :: (R.drop (a - a) ++ B)); rw [g.h,Nat.sub_self]; rfl⟩ ?_ ?_
    ·simp only [mvcgen_simp,method_specs_simp,seval]
    ·rintro ⟨k,z⟩ ⟨hzl,hka,hkt,hz⟩
     simp only at hzl hka hkt hz
     refine CW.sound ?_
     simp only [method_specs_simp,seval,hzl,wt]
     refine gB_split (fun h3=>?_) (fun h3=>?_)
     ·simp only [decide_eq_true_eq,Za] at h3
      obtain ⟨q,hq⟩ : ∃ q,q = k - a:=⟨_,rfl⟩
      rw [← hq] at hz
      obtain ⟨y,hy1,hy2,hy3⟩:=Gm.drop_next (l:=R) (i:=q) (by omega)
      obtain ⟨k1,hk1⟩ : ∃ k1,k1 = k + 1:=⟨_,rfl⟩
      have wk : IntKind.i64.wrap ((k : Int) + 1) = (k1 : Int):=by rw [hk1]; exact wadd1 k (by omega)
      have lq : (R.take q).length = q:=by rw [Zq]; omega
      have hz3 : z = (A ++ R.take q) ++ x :: ([] ++ y :: (R.drop (q + 1) ++ B)):=by rw [hz,hy2]; simp only [Zh,Zu,Zr]
      obtain ⟨g1,g2,g3,_⟩:=Gm.two_get (i:=k) (j:=k1) hz3 (by rw [Zb]; omega) (by simp only [Zb,ZL]; omega)
      simp only [method_specs_simp,seval,wk]
      refine ⟨by kernel_rfl,by omega,by omega,?_⟩
      simp only [method_specs_simp,seval,g1,g2,encI,wk]
      refine ⟨by omega,by omega,by omega,by omega,by omega,by omega,by omega,by rw [ZP]; omega,?_⟩
      refine Again.mk (k1,(z.set k y).set k1 x) [0] ⟨by simp only [ZP]; exact hzl,by show a ≤ k1; omega,by show k1 ≤ u; omega,?_⟩ (by show b - k1 < b - k; omega) ?_
      ·show (z.set k y).set k1 x = A ++ (R.take (k1 - a) ++ x :: (R.drop (k1 - a) ++ B))
       rw [g3,show k1 - a = q + 1 by omega,hy3]
       simp only [Zh,Zu,Zr]
      ·simp only [mvcgen_simp,method_specs_simp,seval]
     ·have : k = u:=by simp only [decide_eq_false_iff_not,Zd,Za] at h3; omega
      have e9 : z = l':=by
       rw [hz,hfin,show k - a = t by omega]
       simp only [Zh,Zu]
      refine LResY.mk [0] ?_
      simp only [mvcgen_simp,method_specs_simp,seval,e9,hln]
theorem n_sym2 {d : Int → Int} (c : FuncId) (dl : List Int) {l l' : List Int} {n a m b : Nat} {A L R B : List Int} (g : MG P d c dl l l' n a m b A L R B) (c1 : L.length ≠ 1) (c2 : R.length = 1) :
  LCon P 157 [.ar 0 0 n,.int .i64 a,.int .i64 m,.int .i64 b,.fn c [] [.fptr [.sl 1 (dl.map encI)] 0]] [.arr true 1 (l.map encI)] (.tup []) [.arr true 1 (l'.map encI)]:=by
  have bn:=g.bn
  have e1:=g.ha
  have e2:=g.hm
  have e3:=g.hb
  have e4:=g.hlt
  have w1 : IntKind.i64.wrap ((m : Int) - (a : Int)) = (L.length : Int):=by rw [wsub m a (by omega) (by omega)]; omega
  have w2 : IntKind.i64.wrap ((b : Int) - (m : Int)) = (R.length : Int):=by rw [wsub b m (by omega) (by omega)]; omega
  refine LCon.of (n:=220) (rs:=[]) (Is.fn Tryz.func157) rfl (Is.call Tryz.call157) Tryz.results157 Tryz.ntmps157 ?_
  simp only [method_specs_simp,seval,w1,w2]
  have d1 : ((L.length : Int) == 1) = false:=by rw [beq_eq_false_iff_ne]; omega
  have d2 : ((R.length : Int) == 1) = true:=by rw [c2]; rfl
  simp only [method_specs_simp,seval,d1,w2,d2]
  obtain ⟨x,rfl⟩ : ∃ x,R = [x]:=by
   match R,c2 with
   | [x],_=>exact ⟨x,rfl⟩
  have hln:=g.hn.symm
  have hlx : l[m]? = some x:=by
   rw [g.h,ZH (by omega),ZH (by omega),show m - A.length - L.length = 0 by omega]; rfl
  refine SW.while (A:=Nat × Nat) (fun p=>⟨pad 220 [.ar 0 0 n,.int .i64 a,.int .i64 m,.int .i64 b,.fn c [] [.fptr [.sl 1 (dl.map encI)] 0],.junk,.junk,.junk,.junk,.junk,.junk,.junk,.junk,.junk,.int .i64 p.1,.int .i64 p.2],[.arr true 1 (l.map encI)],[.ar 0 0 n,.eptr 0 1 0]⟩)
   (fun p=>p.2 - p.1) (fun p=>a ≤ p.1 ∧ p.1 ≤ p.2 ∧ p.2 ≤ m ∧ (p.1 = a ∨ ∃ y,L[p.1 - 1 - a]? = some y ∧ LtD d y x) ∧ (p.2 = m ∨ ∃ y,L[p.2 - a]? = some y ∧ LtD d x y)) (a,m) [0] ⟨Zg _,by show a ≤ m; omega,Zg _,.inl rfl,.inl rfl⟩ ?_ ?_
  ·simp only [mvcgen_simp,method_specs_simp,seval]
   try exact hln.symm
  ·rintro ⟨i,j⟩ ⟨hi,hij,hj,p1,p2⟩
   simp only at hi hij hj p1 p2
   refine CW.sound ?_
   simp only [method_specs_simp,seval,hln]
   refine gB_split (fun h1=>?_) (fun h1=>?_)
   ·simp only [decide_eq_true_eq,Za] at h1
    obtain ⟨k,hk⟩ : ∃ k,k = (i + j) / 2:=⟨_,rfl⟩
    have wk : IntKind.i64.wrap ((IntKind.u64.wrap (IntKind.i64.wrap ((i : Int) + (j : Int)))).fdiv (2 ^ min 1 IntKind.u64.bits)) = (k : Int):=by rw [hk]; exact mid_at i j (by omega)
    have wk1 : IntKind.i64.wrap ((k : Int) + 1) = ((k + 1 : Nat) : Int):=wadd1 k (by omega)
    obtain ⟨y,hy⟩ : ∃ y,L[k - a]? = some y:=⟨_,Zc (by omega)⟩
    have hly : l[k]? = some y:=by
     rw [g.h,ZH (by omega),ZZ (by omega),← hy,e1]
    simp only [wk]
    refine ⟨by kernel_rfl,by omega,by omega,?_⟩
    simp only [method_specs_simp,seval,hly,hlx,encI,wk]
    refine ⟨by omega,by omega,?_⟩
    have hyL : y ∈ L:=Zn hy
    have hle:=g.cmp (x:=y) (y:=x) hyL (by simp)
    refine clY.conC (g.hc x (by simp) y (by simp [hyL])) rfl (by simp only [method_specs_simp]) ?_
    simp only [method_specs_simp,seval,hle,wk1]
    cases h2 : ltD d x y
    ·have hne : y ≠ x:=fun e=>by
      have hnd:=g.hs.nodup
      rw [YA] at hnd
      exact hnd.2.2 y hyL x (by simp) e
     simp only [method_specs_simp,seval,h2,wk1]
     refine Again.mk (k + 1,j) [0] ⟨by show a ≤ k + 1; omega,by show k + 1 ≤ j; omega,hj,.inr ⟨y,by show L[k + 1 - 1 - a]? = some y; rw [← hy,YU],Gm.ltD_tot (fun e=>hne e.symm) (by unfold LtD; rw [h2]; decide)⟩,p2⟩ (by show j - (k + 1) < j - i; omega) ?_
     simp only [mvcgen_simp,method_specs_simp,seval]
    ·simp only [method_specs_simp,seval,h2,wk1]
     refine Again.mk (i,k) [0] ⟨hi,by show i ≤ k; omega,by show k ≤ m; omega,p1,.inr ⟨y,hy,h2⟩⟩ (by show k - i < j - i; omega) ?_
     simp only [mvcgen_simp,method_specs_simp,seval]
   ·have hij2 : i = j:=by simp only [decide_eq_false_iff_not,Zd,Za] at h1; omega
    subst hij2
    obtain ⟨t,ht⟩ : ∃ t,t = i - a:=⟨_,rfl⟩
    have c3:=Gm.cut_one g.hL (x:=x) (t:=t) (p1.elim (fun h=>.inl (by omega)) fun ⟨y,h3,h4⟩=>.inr ⟨y,by rw [← h3]; congr 1; omega,h4⟩) (p2.elim (fun h=>.inl (by omega)) fun ⟨y,h3,h4⟩=>.inr ⟨y,by rw [← h3]; congr 1,h4⟩)
    have hfin : l' = A ++ ((L.take t ++ x :: L.drop t) ++ B):=by rw [g.h',← Gm.srtD_of (l:=L ++ [x]) (c3.2.trans (YS x L).symm) c3.1]
    refine SW.while (A:=Nat × List Int) (fun p=>⟨pad 220 [.ar 0 0 n,.int .i64 a,.int .i64 m,.int .i64 b,.fn c [] [.fptr [.sl 1 (dl.map encI)] 0],.junk,.junk,.junk,.junk,.junk,.junk,.junk,.junk,.junk,.int .i64 i,.junk,.junk,.int .i64 p.1],[.arr true 1 (p.2.map encI)],[.ar 0 0 n,.eptr 0 1 0]⟩)
     (fun p=>p.1) (fun p=>p.2.length = n ∧ i ≤ p.1 ∧ p.1 ≤ m ∧ p.2 = A ++ (L.take (p.1 - a) ++ x :: (L.drop (p.1 - a) ++ B))) (m,l) [0] ⟨hln,by show i ≤ m; omega,Zg _,by show l = A ++ (L.take (m - a) ++ x :: (L.drop (m - a) ++ B)); rw [g.h,Zm (by omega),ZK (by omega)]; rfl⟩ ?_ ?_
    ·simp only [mvcgen_simp,method_specs_simp,seval]
    ·rintro ⟨k,z⟩ ⟨hzl,hka,hkt,hz⟩
     simp only at hzl hka hkt hz
     refine CW.sound ?_
     simp only [method_specs_simp,seval,hzl]
     refine gB_split (fun h3=>?_) (fun h3=>?_)
     ·simp only [decide_eq_true_eq,gt_iff_lt,Za] at h3
      obtain ⟨k1,hk1⟩ : ∃ k1,k1 = k - 1:=⟨_,rfl⟩
      obtain ⟨q,hq⟩ : ∃ q,q = k1 - a:=⟨_,rfl⟩
      obtain ⟨y,hy1,hy2,hy3⟩:=Gm.drop_next (l:=L) (i:=q) (by omega)
      rw [show k - a = q + 1 by omega,hy3] at hz
      have wk : IntKind.i64.wrap ((k : Int) - 1) = (k1 : Int):=by rw [hk1]; exact wsub1 k (by omega) (by omega)
      have lq : (L.take q).length = q:=by rw [Zq]; omega
      have hz3 : z = (A ++ L.take q) ++ y :: ([] ++ x :: (L.drop (q + 1) ++ B)):=by rw [hz]; simp only [Zh,Zu,Zr]
      obtain ⟨g1,g2,_,g3⟩:=Gm.two_get (i:=k1) (j:=k) hz3 (by rw [Zb]; omega) (by simp only [Zb,ZL]; omega)
      simp only [method_specs_simp,seval,wk]
      refine ⟨by kernel_rfl,by omega,by omega,?_⟩
      simp only [method_specs_simp,seval,g1,g2,encI,wk]
      refine ⟨by omega,by omega,by omega,by omega,by omega,by omega,by omega,by rw [ZP]; omega,?_⟩
      refine Again.mk (k1,(z.set k y).set k1 x) [0] ⟨by simp only [ZP]; exact hzl,by show i ≤ k1; omega,by show k1 ≤ m; omega,?_⟩ (by show k1 < k; omega) ?_
      ·show (z.set k y).set k1 x = A ++ (L.take (k1 - a) ++ x :: (L.drop (k1 - a) ++ B))
       rw [g3,← hq,hy2]
       simp only [Zh,Zu,Zr]
      ·simp only [mvcgen_simp,method_specs_simp,seval]
     ·have : k = i:=by simp only [decide_eq_false_iff_not,Zd,gt_iff_lt,Za] at h3; omega
      have e9 : z = l':=by
       rw [hz,hfin,show k - a = t by omega]
       simp only [Zh,Zu]
      refine LResY.mk [0] ?_
      simp only [mvcgen_simp,method_specs_simp,seval,e9,hln]
end
def OrH (p q : Prop) : Prop:=p ∨ q
theorem OrH.el {p q r : Prop} (h : OrH p q) (h1 : p → r) (h2 : q → r) : r:=Or.elim h h1 h2
theorem orH {p q : Prop} (h : p ∨ q) : OrH p q:=h
structure Lin (p : Prop) : Prop where
 h : p
theorem sym_start {a b m mid nn x y : Nat} (e2 : m = a + x) (e3 : b = m + y) (hmid : mid = (a + b) / 2) (hnn : nn = mid + m) (l2 : 2 ≤ x) (r2 : 2 ≤ y) :
  ∃ lo hi pp,nn = pp + 1 ∧ a ≤ lo ∧ lo ≤ hi ∧ hi ≤ m ∧ hi ≤ mid ∧ mid ≤ lo + y ∧ OrH (lo = a) (mid = lo + y) ∧ OrH (hi = m) (hi = mid) ∧ OrH (mid < m ∧ nn = b + lo ∧ hi = mid) (¬ mid < m ∧ lo = a ∧ hi = m):=by
 by_cases h : mid < m
 ·exact ⟨nn - b,mid,nn - 1,by omega,by omega,by omega,by omega,by omega,by omega,orH (by omega),orH (by omega),.inl ⟨h,by omega,rfl⟩⟩
 ·exact ⟨a,m,nn - 1,by omega,by omega,by omega,by omega,by omega,by omega,orH (by omega),orH (by omega),.inr ⟨h,rfl,rfl⟩⟩
structure SI (d : Int → Int) (L R : List Int) (a mid lo hi i j : Nat) : Prop where
 h1 : lo ≤ i
 h2 : i ≤ j
 h3 : j ≤ hi
 p1 : i = lo ∨ ∃ x y,L[i - 1 - a]? = some x ∧ R[mid - i]? = some y ∧ LtD d x y
 p2 : j = hi ∨ ∃ x y,L[j - a]? = some x ∧ R[mid - 1 - j]? = some y ∧ LtD d y x
theorem sym_probe {P : Program} {d : Int → Int} {c : FuncId} {dl l l' : List Int} {n a m b : Nat} {A L R B : List Int} (g : MG P d c dl l l' n a m b A L R B) {mid nn pp lo hi i j : Nat}
  (hmid : mid = (a + b) / 2) (hnn : nn = mid + m) (hpp : nn = pp + 1) (f1 : a ≤ lo) (f3 : hi ≤ m) (f4 : hi ≤ mid) (f5 : mid ≤ lo + R.length) (hs : SI d L R a mid lo hi i j) (hij : i < j) :
  ∃ (k v : Nat) (x y : Int),IntKind.i64.wrap ((IntKind.u64.wrap (IntKind.i64.wrap ((i : Int) + (j : Int)))).fdiv (2 ^ min 1 IntKind.u64.bits)) = (k : Int) ∧ IntKind.i64.wrap ((k : Int) + 1) = ((k + 1 : Nat) : Int) ∧ IntKind.i64.wrap ((pp : Int) - (k : Int)) = (v : Int) ∧
   l[k]? = some x ∧ l[v]? = some y ∧ x ∈ L ∧ y ∈ R ∧ (0 : Int) ≤ k ∧ (k : Int) < n ∧ (0 : Int) ≤ v ∧ (v : Int) < n ∧ k - i < j - i ∧ j - (k + 1) < j - i ∧ (LtD d y x → SI d L R a mid lo hi i k) ∧ (¬ LtD d y x → SI d L R a mid lo hi (k + 1) j):=by
 obtain ⟨h1,h2,h3,p1,p2⟩:=hs
 have bn:=g.bn
 have e1:=g.ha
 have e2:=g.hm
 have e3:=g.hb
 have e4:=g.hlt
 obtain ⟨k,hk⟩ : ∃ k,k = (i + j) / 2:=⟨_,rfl⟩
 have k1 : i ≤ k:=by clear p1 p2; omega
 have k2 : k < j:=by clear p1 p2; omega
 obtain ⟨v,hv⟩ : ∃ v,pp = k + v:=⟨pp - k,by clear p1 p2; omega⟩
 obtain ⟨s,hs⟩ : ∃ s,k = a + s:=⟨k - a,by clear p1 p2; omega⟩
 obtain ⟨t,ht⟩ : ∃ t,mid = k + 1 + t:=⟨mid - 1 - k,by clear p1 p2; omega⟩
 have s1 : s < L.length:=by clear p1 p2; omega
 have t1 : t < R.length:=by clear p1 p2; omega
 have v1 : v = m + t:=by clear p1 p2; omega
 obtain ⟨x,hx⟩ : ∃ x,L[s]? = some x:=⟨_,Zc s1⟩
 obtain ⟨y,hy⟩ : ∃ y,R[t]? = some y:=⟨_,Zc t1⟩
 have hxL : x ∈ L:=Zn hx
 have hyR : y ∈ R:=Zn hy
 have hne : y ≠ x:=fun e=>by
  have hnd:=g.hs.nodup
  rw [YA] at hnd
  exact hnd.2.2 x hxL y hyR e.symm
 refine ⟨k,v,x,y,by rw [hk]; exact mid_at i j (by clear p1 p2; omega),wadd1 k (by clear p1 p2; omega),?_,?_,?_,hxL,hyR,by clear p1 p2; omega,by clear p1 p2; omega,by clear p1 p2; omega,by clear p1 p2; omega,by clear p1 p2; omega,by clear p1 p2; omega,fun h=>⟨h1,k1,by clear p1 p2; omega,p1,.inr ⟨x,y,?_,?_,h⟩⟩,fun h=>⟨by clear p1 p2; omega,k2,h3,.inr ⟨x,y,?_,?_,Gm.ltD_tot hne h⟩,p2⟩⟩
 ·rw [wsub pp k (by clear p1 p2; omega) (by clear p1 p2; omega)]; congr 1; clear p1 p2; omega
 ·rw [g.h,ZH (by clear p1 p2; omega),ZZ (by clear p1 p2; omega),← hx]; congr 1; clear p1 p2; omega
 ·rw [g.h,ZH (by clear p1 p2; omega),ZH (by clear p1 p2; omega),ZZ (by clear p1 p2; omega),← hy]; congr 1; clear p1 p2; omega
 ·rw [← hx]; congr 1; clear p1 p2; omega
 ·rw [← hy]; congr 1; clear p1 p2; omega
 ·rw [← hx]; congr 1; clear p1 p2; omega
 ·rw [← hy]; congr 1; clear p1 p2; omega
section
variable {P : Program} [Is P]
structure SP (P : Program) (c : FuncId) (dl l l' : List Int) (n a m b mid i en x y u t : Nat) (z0 z1 : List Int) : Prop where
 rot : u < x → 0 < t → LCon P 172 [.ar 0 0 n,.int .i64 i,.int .i64 m,.int .i64 en,.fn c [] [.fptr [.sl 1 (dl.map encI)] 0]] [.arr true 1 (l.map encI)] (.tup []) [.arr true 1 (z0.map encI)]
 rec1 : 0 < u → 0 < t → LCon P 157 [.ar 0 0 n,.int .i64 a,.int .i64 i,.int .i64 mid,.fn c [] [.fptr [.sl 1 (dl.map encI)] 0]] [.arr true 1 (z0.map encI)] (.tup []) [.arr true 1 (z1.map encI)]
 rec2 : u < x → t < y → LCon P 157 [.ar 0 0 n,.int .i64 mid,.int .i64 en,.int .i64 b,.fn c [] [.fptr [.sl 1 (dl.map encI)] 0]] [.arr true 1 (z1.map encI)] (.tup []) [.arr true 1 (l'.map encI)]
 no0 : ¬ (u < x ∧ 0 < t) → l = z0
 no1 : ¬ (0 < u ∧ 0 < t) → z0 = z1
 no2 : ¬ (u < x ∧ t < y) → z1 = l'
 c1 : decide ((i : Int) < (m : Int)) = decide (u < x)
 c2 : decide ((m : Int) < (en : Int)) = decide (0 < t)
 c3 : decide ((a : Int) < (i : Int)) = decide (0 < u)
 c4 : decide ((i : Int) < (mid : Int)) = decide (0 < t)
 c5 : decide ((mid : Int) < (en : Int)) = decide (u < x)
 c6 : decide ((en : Int) < (b : Int)) = decide (t < y)
theorem dec_of {p q : Prop} [Decidable p] [Decidable q] (h : p ↔ q) : decide p = decide q:=by
 by_cases hq : q
 ·rw [decide_eq_true hq,decide_eq_true (h.2 hq)]
 ·rw [decide_eq_false hq,decide_eq_false (fun hp=>hq (h.1 hp))]
theorem sym_parts {d : Int → Int} {c : FuncId} {dl l l' : List Int} {n a m b : Nat} {A L R B : List Int} (g : MG P d c dl l l' n a m b A L R B)
  (IH : ∀ {l l' : List Int} {n a m b : Nat} {A L' R' B : List Int},L'.length + R'.length < L.length + R.length → MG P d c dl l l' n a m b A L' R' B → LCon P 157 [.ar 0 0 n,.int .i64 a,.int .i64 m,.int .i64 b,.fn c [] [.fptr [.sl 1 (dl.map encI)] 0]] [.arr true 1 (l.map encI)] (.tup []) [.arr true 1 (l'.map encI)])
  {mid i en u t : Nat} (hi : i = a + u) (hm : mid = i + t) (he : en = m + t) (hu : u ≤ L.length) (ht : t ≤ R.length) (h1 : 0 < u + t) (h2 : u + t < L.length + R.length)
  (mg : srtD d (L.take u ++ R.take t) ++ srtD d (L.drop u ++ R.drop t) = srtD d (L ++ R)) : ∃ z0 z1,SP P c dl l l' n a m b mid i en L.length R.length u t z0 z1:=by
 have bn:=g.bn
 have e1:=g.ha
 have e2:=g.hm
 have e3:=g.hb
 have e4:=g.hlt
 have lu : (L.take u).length = u:=by rw [Zq]; omega
 have lt : (R.take t).length = t:=by rw [Zq]; omega
 have ld : (L.drop u).length + u = L.length:=by rw [ZJ]; omega
 have le : (R.drop t).length + t = R.length:=by rw [ZJ]; omega
 have tL : L.take u ++ L.drop u = L:=Ye u L
 have tR : R.take t ++ R.drop t = R:=Ye t R
 obtain ⟨z0,hz0⟩ : ∃ z,z = A ++ (L.take u ++ (R.take t ++ (L.drop u ++ (R.drop t ++ B)))):=⟨_,rfl⟩
 obtain ⟨z1,hz1⟩ : ∃ z,z = A ++ (srtD d (L.take u ++ R.take t) ++ (L.drop u ++ (R.drop t ++ B))):=⟨_,rfl⟩
 have hl2 : l = (A ++ L.take u) ++ (L.drop u ++ (R.take t ++ (R.drop t ++ B))):=by
  rw [g.h]
  conv=>lhs; rw [← tL,← tR]
  simp only [Zh]
 have hl3 : l' = (A ++ srtD d (L.take u ++ R.take t)) ++ (srtD d (L.drop u ++ R.drop t) ++ B):=by rw [g.h',← mg]; simp only [Zh]
 have n0 : n = z0.length:=by rw [hz0,g.hn,hl2]; simp only [Zb]; omega
 have n1 : n = z1.length:=by rw [hz1,n0,hz0]; simp only [Zb,Gm.srtD_len]; omega
 have sub1 : (L.take u ++ R.take t).Sublist (L ++ R):=List.Sublist.append (ZM u L) (ZM t R)
 have sub2 : (L.drop u ++ R.drop t).Sublist (L ++ R):=List.Sublist.append (ZU u L) (ZU t R)
 have nil1 : ¬ u < L.length → L.drop u = []:=fun h=>ZK (by omega)
 have nil2 : ¬ 0 < t → R.take t = []:=fun h=>by rw [show t = 0 by omega]; rfl
 have nil3 : ¬ 0 < u → L.take u = []:=fun h=>by rw [show u = 0 by omega]; rfl
 have nil4 : ¬ t < R.length → R.drop t = []:=fun h=>ZK (by omega)
 have si1 : srtD d (L.take u) = L.take u:=Gm.srtD_id (g.hL.sublist (ZM _ _))
 have si2 : srtD d (R.take t) = R.take t:=Gm.srtD_id (g.hR.sublist (ZM _ _))
 have si3 : srtD d (L.drop u) = L.drop u:=Gm.srtD_id (g.hL.sublist (ZU _ _))
 have si4 : srtD d (R.drop t) = R.drop t:=Gm.srtD_id (g.hR.sublist (ZU _ _))
 refine ⟨z0,z1,fun r1 r2=>?_,fun r1 r2=>?_,fun r1 r2=>?_,fun h=>?_,fun h=>?_,fun h=>?_,dec_of ?_,dec_of ?_,dec_of ?_,dec_of ?_,dec_of ?_,dec_of ?_⟩
 ·exact n_rotate c dl hl2 (by rw [hz0]; simp only [Zh]) (by rw [Zb]; omega) (by omega) (by omega) (fun e=>by rw [e] at ld; simp only [ZL] at ld; omega) (fun e=>by rw [e] at lt; simp only [ZL] at lt; omega) g.hn e4
 ·exact IH (L':=L.take u) (R':=R.take t) (by omega) ⟨hz0,hz1,e1,by omega,by omega,by omega,by omega,g.hL.sublist (ZM _ _),g.hR.sublist (ZM _ _),g.hs.sub sub1,fun x hx y hy=>g.hc x (sub1.subset hx) y (sub1.subset hy),n0,e4⟩
 ·exact IH (A:=A ++ srtD d (L.take u ++ R.take t)) (L':=L.drop u) (R':=R.drop t) (B:=B) (by omega) ⟨by rw [hz1]; simp only [Zh],hl3,by rw [Zb,Gm.srtD_len,Zb]; omega,by omega,by omega,by omega,by omega,g.hL.sublist (ZU _ _),g.hR.sublist (ZU _ _),g.hs.sub sub2,fun x hx y hy=>g.hc x (sub2.subset hx) y (sub2.subset hy),n1,e4⟩
 ·rw [hl2,hz0]
  by_cases h5 : u < L.length
  ·rw [nil2 fun h6=>h ⟨h5,h6⟩]
   simp only [Zh,Zr]
  ·rw [nil1 h5]
   simp only [Zh,Zr]
 ·rw [hz0,hz1]
  by_cases h5 : 0 < u
  ·rw [nil2 fun h6=>h ⟨h5,h6⟩,ZF,si1,Zr]
  ·rw [nil3 h5,Zr,Zr,si2]
 ·rw [hz1,hl3]
  by_cases h5 : u < L.length
  ·rw [nil4 fun h6=>h ⟨h5,h6⟩,ZF,si3]
   simp only [Zh,Zr]
  ·rw [nil1 h5]
   simp only [Zr]
   rw [si4]
   simp only [Zh]
 all_goals (rw [Za]; omega)
theorem sym_done {d : Int → Int} {c : FuncId} {dl l l' : List Int} {n a m b : Nat} {A L R B : List Int} (g : MG P d c dl l l' n a m b A L R B)
  (IH : ∀ {l l' : List Int} {n a m b : Nat} {A L' R' B : List Int},L'.length + R'.length < L.length + R.length → MG P d c dl l l' n a m b A L' R' B → LCon P 157 [.ar 0 0 n,.int .i64 a,.int .i64 m,.int .i64 b,.fn c [] [.fptr [.sl 1 (dl.map encI)] 0]] [.arr true 1 (l.map encI)] (.tup []) [.arr true 1 (l'.map encI)])
  {mid nn lo hi i : Nat} (hmid : mid = (a + b) / 2) (hnn : nn = mid + m) (l2 : 2 ≤ L.length) (r2 : 2 ≤ R.length) (f1 : a ≤ lo) (f3 : hi ≤ m) (f4 : hi ≤ mid) (f5 : mid ≤ lo + R.length) (f6 : OrH (lo = a) (mid = lo + R.length)) (f7 : OrH (hi = m) (hi = mid)) (hs : SI d L R a mid lo hi i i) :
  ∃ (en u t : Nat) (z0 z1 : List Int),IntKind.i64.wrap ((nn : Int) - (i : Int)) = (en : Int) ∧ SP P c dl l l' n a m b mid i en L.length R.length u t z0 z1:=by
 obtain ⟨h1,h2,h3,p1,p2⟩:=hs
 have bn:=g.bn
 have e2:=g.hm
 have e3:=g.hb
 have e4:=g.hlt
 obtain ⟨u,hu⟩ : ∃ u,i = a + u:=⟨i - a,by clear p1 p2; omega⟩
 obtain ⟨t,ht⟩ : ∃ t,mid = i + t:=⟨mid - i,by clear p1 p2; omega⟩
 have mg:=Gm.merged g.hL g.hR (s:=u) (t:=t) g.hs
  (p1.elim (fun h=>f6.el (fun h5=>.inl (by clear p2; omega)) fun h5=>.inr (.inl (by clear p2; omega))) fun ⟨x,y,h3,h4,h5⟩=>.inr (.inr ⟨x,y,by rw [← h3]; congr 1; clear p2; omega,by rw [← h4]; congr 1; clear p2; omega,h5⟩))
  (p2.elim (fun h=>f7.el (fun h5=>.inl (by clear p1; omega)) fun h5=>.inr (.inl (by clear p1; omega))) fun ⟨x,y,h3,h4,h5⟩=>.inr (.inr ⟨x,y,by rw [← h3]; congr 1; clear p1; omega,by rw [← h4]; congr 1; clear p1; omega,h5⟩))
 clear p1 p2
 obtain ⟨z0,z1,h⟩:=sym_parts g IH (mid:=mid) (i:=i) (en:=m + t) hu ht rfl (by omega) (by omega) (by omega) (by omega) mg
 exact ⟨m + t,u,t,z0,z1,by rw [wsub nn i (by omega) (by omega)]; congr 1; omega,h⟩
theorem n_symG {d : Int → Int} (c : FuncId) (dl : List Int) {l l' : List Int} {n a m b : Nat} {A L R B : List Int} (g : MG P d c dl l l' n a m b A L R B) (c1 : L.length ≠ 1) (c2 : R.length ≠ 1)
  (IH : ∀ {l l' : List Int} {n a m b : Nat} {A L' R' B : List Int},L'.length + R'.length < L.length + R.length → MG P d c dl l l' n a m b A L' R' B → LCon P 157 [.ar 0 0 n,.int .i64 a,.int .i64 m,.int .i64 b,.fn c [] [.fptr [.sl 1 (dl.map encI)] 0]] [.arr true 1 (l.map encI)] (.tup []) [.arr true 1 (l'.map encI)]) :
  LCon P 157 [.ar 0 0 n,.int .i64 a,.int .i64 m,.int .i64 b,.fn c [] [.fptr [.sl 1 (dl.map encI)] 0]] [.arr true 1 (l.map encI)] (.tup []) [.arr true 1 (l'.map encI)]:=by
 have w1 : IntKind.i64.wrap ((m : Int) - (a : Int)) = (L.length : Int):=by have:=g.hm; have:=g.hb; have:=g.bn; have:=g.hlt; rw [wsub m a (by omega) (by omega)]; omega
 have w2 : IntKind.i64.wrap ((b : Int) - (m : Int)) = (R.length : Int):=by have:=g.hm; have:=g.hb; have:=g.bn; have:=g.hlt; rw [wsub b m (by omega) (by omega)]; omega
 have l2 : 2 ≤ L.length:=by have:=g.l1; omega
 have r2 : 2 ≤ R.length:=by have:=g.r1; omega
 have d1 : ((L.length : Int) == 1) = false:=by rw [beq_eq_false_iff_ne]; omega
 have d2 : ((R.length : Int) == 1) = false:=by rw [beq_eq_false_iff_ne]; omega
 have hln:=g.hn.symm
 obtain ⟨mid,hmid⟩ : ∃ mid,mid = (a + b) / 2:=⟨_,rfl⟩
 obtain ⟨nn,hnn⟩ : ∃ nn,nn = mid + m:=⟨_,rfl⟩
 have wm : IntKind.i64.wrap ((IntKind.u64.wrap (IntKind.i64.wrap ((a : Int) + (b : Int)))).fdiv (2 ^ min 1 IntKind.u64.bits)) = (mid : Int):=by have:=g.hm; have:=g.hb; have:=g.bn; have:=g.hlt; rw [hmid]; exact mid_at a b (by omega)
 have wnn : IntKind.i64.wrap ((mid : Int) + (m : Int)) = (nn : Int):=by have:=g.hm; have:=g.hb; have:=g.bn; have:=g.hlt; rw [hnn]; exact wadd mid m (by omega)
 obtain ⟨lo,hi,pp,hpp,f1,f2,f3,f4,f5,f6,f7,f8⟩:=sym_start g.hm g.hb hmid hnn l2 r2
 have wp : IntKind.i64.wrap ((nn : Int) - 1) = (pp : Int):=by have:=g.hm; have:=g.hb; have:=g.bn; have:=g.hlt; rw [wsub1 nn (by omega) (by omega)]; congr 1; omega
 have wl : nn = b + lo → IntKind.i64.wrap ((nn : Int) - (b : Int)) = (lo : Int):=fun h=>by have:=g.hm; have:=g.hb; have:=g.bn; have:=g.hlt; rw [wsub nn b (by omega) (by omega)]; congr 1; omega
 refine LCon.of (n:=220) (rs:=[]) (Is.fn Tryz.func157) rfl (Is.call Tryz.call157) Tryz.results157 Tryz.ntmps157 ?_
 simp only [method_specs_simp,seval,w1,w2]
 simp only [method_specs_simp,seval,d1,w2,d2,wm,wnn]
 refine gB_split (fun h1=>?k1) (fun h1=>?k2)
 case' k1 =>
  simp only [decide_eq_true_eq,gt_iff_lt,Za] at h1
  obtain ⟨q1,q2⟩ : nn = b + lo ∧ hi = mid:=f8.el (fun q=>q.2) (fun q=>absurd h1 q.1)
  have q1:=wl q1
  rw [q1,wp]
  have q3 : (mid : Int) = (hi : Int):=by rw [q2]
 case' k2 =>
  simp only [decide_eq_false_iff_not,Zd,gt_iff_lt,Za] at h1
  obtain ⟨q1,q2⟩ : lo = a ∧ hi = m:=f8.el (fun q=>absurd q.1 h1) (fun q=>q.2)
  have q3 : (a : Int) = (lo : Int) ∧ (m : Int) = (hi : Int):=⟨by rw [q1],by rw [q2]⟩
  rw [wp]
 all_goals
  refine SW.while (A:=Nat × Nat) (fun p=>⟨pad 220 [.ar 0 0 n,.int .i64 a,.int .i64 m,.int .i64 b,.fn c [] [.fptr [.sl 1 (dl.map encI)] 0],.junk,.junk,.junk,.junk,.junk,.junk,.junk,.junk,.junk,.junk,.junk,.junk,.junk,.int .i64 mid,.int .i64 nn,.int .i64 p.1,.int .i64 p.2,.int .i64 pp],[.arr true 1 (l.map encI)],[.ar 0 0 n,.eptr 0 1 0]⟩)
   (fun p=>p.2 - p.1) (fun p=>SI d L R a mid lo hi p.1 p.2) (lo,hi) [0] ⟨Zg _,f2,Zg _,.inl rfl,.inl rfl⟩ ?_ ?_
  ·simp only [mvcgen_simp,method_specs_simp,seval]
   first | exact ⟨trivial,hln.symm⟩ | exact ⟨trivial,trivial,hln.symm⟩ | exact q3 | exact ⟨q3,hln.symm⟩ | exact ⟨q3.1,q3.2,hln.symm⟩ | simp only [q1,q2,hln,and_self]
  ·rintro ⟨i,j⟩ hs
   simp only at hs
   refine CW.sound ?_
   simp only [method_specs_simp,seval,hln]
   refine gB_split (fun h2=>?_) (fun h2=>?_)
   ·simp only [decide_eq_true_eq,Za] at h2
    obtain ⟨k,v,x,y,wk,wk1,wv,hlx,hly,hxL,hyR,b1,b2,b3,b4,m1,m2,s1,s2⟩:=sym_probe g hmid hnn hpp f1 f3 f4 f5 hs h2
    have hle:=g.cmp (x:=x) (y:=y) hxL hyR
    simp only [wk,wv]
    refine ⟨by kernel_rfl,b3,b4,?_⟩
    simp only [method_specs_simp,seval,hlx,hly,encI,wk,wv]
    refine ⟨b1,b2,?_⟩
    refine clY.conC (g.hc y (by simp [hyR]) x (by simp [hxL])) rfl (by simp only [method_specs_simp]) ?_
    simp only [method_specs_simp,seval,hle,wk1]
    cases h3 : ltD d y x
    ·simp only [method_specs_simp,seval,h3,wk1]
     refine Again.mk (k + 1,j) [0] (s2 (by unfold LtD; rw [h3]; decide)) m2 ?_
     simp only [mvcgen_simp,method_specs_simp,seval]
    ·simp only [method_specs_simp,seval,h3,wk1]
     refine Again.mk (i,k) [0] (s1 h3) m1 ?_
     simp only [mvcgen_simp,method_specs_simp,seval]
   ·have hij2 : i = j:=by have:=hs.h2; simp only [decide_eq_false_iff_not,Zd,Za] at h2; omega
    subst hij2
    obtain ⟨en,u,t,z0,z1,wen,sp⟩:=sym_done g IH hmid hnn l2 r2 f1 f3 f4 f5 f6 f7 hs
    have dt : ∀ {p : Prop} [Decidable p],p → decide p = true:=fun h=>decide_eq_true h
    have df : ∀ {p : Prop} [Decidable p],¬ p → decide p = false:=fun h=>decide_eq_false h
    simp only [method_specs_simp,seval,wen,sp.c1,sp.c2,sp.c3,sp.c4,sp.c5,sp.c6]
    by_cases k1 : u < L.length
    ·by_cases k2 : 0 < t
     ·simp only [method_specs_simp,seval,wen,sp.c1,sp.c2,sp.c3,sp.c4,sp.c5,sp.c6,dt k1,dt k2]
      refine clY.live [0] [] (sp.rot k1 k2) ?_ (by simp) ?_
      ·simp only [mvcgen_simp,method_specs_simp,seval,wen,sp.c1,sp.c2,sp.c3,sp.c4,sp.c5,sp.c6]
      simp only [method_specs_simp,seval,wen,sp.c1,sp.c2,sp.c3,sp.c4,sp.c5,sp.c6,dt k1,dt k2]
      by_cases k3 : 0 < u
      ·simp only [method_specs_simp,seval,wen,sp.c1,sp.c2,sp.c3,sp.c4,sp.c5,sp.c6,dt k3]
       refine clY.live [0] [] (sp.rec1 k3 k2) ?_ (by simp) ?_
       ·simp only [mvcgen_simp,method_specs_simp,seval,wen,sp.c1,sp.c2,sp.c3,sp.c4,sp.c5,sp.c6]
       simp only [method_specs_simp,seval,wen,sp.c1,sp.c2,sp.c3,sp.c4,sp.c5,sp.c6,dt k1]
       by_cases k4 : t < R.length
       ·simp only [method_specs_simp,seval,wen,sp.c1,sp.c2,sp.c3,sp.c4,sp.c5,sp.c6,dt k4]
        refine clY.live [0] [] (sp.rec2 k1 k4) ?_ (by simp) ?_
        ·simp only [mvcgen_simp,method_specs_simp,seval,wen,sp.c1,sp.c2,sp.c3,sp.c4,sp.c5,sp.c6]
        simp only [method_specs_simp,seval,wen,sp.c1,sp.c2,sp.c3,sp.c4,sp.c5,sp.c6]
        refine LResY.mk [0] ?_
        simp only [mvcgen_simp,method_specs_simp,seval,wen,sp.c1,sp.c2,sp.c3,sp.c4,sp.c5,sp.c6,hln]
       ·simp only [method_specs_simp,seval,wen,sp.c1,sp.c2,sp.c3,sp.c4,sp.c5,sp.c6,df k4]
        refine LResY.mk [0] ?_
        simp only [mvcgen_simp,method_specs_simp,seval,wen,sp.c1,sp.c2,sp.c3,sp.c4,sp.c5,sp.c6,hln,sp.no2 fun h=>k4 h.2]
      ·have e01:=sp.no1 fun h=>k3 h.1
       simp only [method_specs_simp,seval,wen,sp.c1,sp.c2,sp.c3,sp.c4,sp.c5,sp.c6,df k3,e01]
       by_cases k4 : t < R.length
       ·simp only [method_specs_simp,seval,wen,sp.c1,sp.c2,sp.c3,sp.c4,sp.c5,sp.c6,dt k4]
        refine clY.live [0] [] (sp.rec2 k1 k4) ?_ (by simp) ?_
        ·simp only [mvcgen_simp,method_specs_simp,seval,wen,sp.c1,sp.c2,sp.c3,sp.c4,sp.c5,sp.c6]
        simp only [method_specs_simp,seval,wen,sp.c1,sp.c2,sp.c3,sp.c4,sp.c5,sp.c6]
        refine LResY.mk [0] ?_
        simp only [mvcgen_simp,method_specs_simp,seval,wen,sp.c1,sp.c2,sp.c3,sp.c4,sp.c5,sp.c6,hln]
       ·simp only [method_specs_simp,seval,wen,sp.c1,sp.c2,sp.c3,sp.c4,sp.c5,sp.c6,df k4]
        refine LResY.mk [0] ?_
        simp only [mvcgen_simp,method_specs_simp,seval,wen,sp.c1,sp.c2,sp.c3,sp.c4,sp.c5,sp.c6,hln,sp.no2 fun h=>k4 h.2]
     ·have e01:=(sp.no0 fun h=>k2 h.2).trans (sp.no1 fun h=>k2 h.2)
      simp only [method_specs_simp,seval,wen,sp.c1,sp.c2,sp.c3,sp.c4,sp.c5,sp.c6,dt k1,df k2,e01]
      by_cases k3 : 0 < u
      ·simp only [method_specs_simp,seval,wen,sp.c1,sp.c2,sp.c3,sp.c4,sp.c5,sp.c6,dt k3]
       by_cases k4 : t < R.length
       ·simp only [method_specs_simp,seval,wen,sp.c1,sp.c2,sp.c3,sp.c4,sp.c5,sp.c6,dt k4]
        refine clY.live [0] [] (sp.rec2 k1 k4) ?_ (by simp) ?_
        ·simp only [mvcgen_simp,method_specs_simp,seval,wen,sp.c1,sp.c2,sp.c3,sp.c4,sp.c5,sp.c6]
        simp only [method_specs_simp,seval,wen,sp.c1,sp.c2,sp.c3,sp.c4,sp.c5,sp.c6]
        refine LResY.mk [0] ?_
        simp only [mvcgen_simp,method_specs_simp,seval,wen,sp.c1,sp.c2,sp.c3,sp.c4,sp.c5,sp.c6,hln]
       ·simp only [method_specs_simp,seval,wen,sp.c1,sp.c2,sp.c3,sp.c4,sp.c5,sp.c6,df k4]
        refine LResY.mk [0] ?_
        simp only [mvcgen_simp,method_specs_simp,seval,wen,sp.c1,sp.c2,sp.c3,sp.c4,sp.c5,sp.c6,hln,sp.no2 fun h=>k4 h.2]
      ·simp only [method_specs_simp,seval,wen,sp.c1,sp.c2,sp.c3,sp.c4,sp.c5,sp.c6,df k3]
       by_cases k4 : t < R.length
       ·simp only [method_specs_simp,seval,wen,sp.c1,sp.c2,sp.c3,sp.c4,sp.c5,sp.c6,dt k4]
        refine clY.live [0] [] (sp.rec2 k1 k4) ?_ (by simp) ?_
        ·simp only [mvcgen_simp,method_specs_simp,seval,wen,sp.c1,sp.c2,sp.c3,sp.c4,sp.c5,sp.c6]
        simp only [method_specs_simp,seval,wen,sp.c1,sp.c2,sp.c3,sp.c4,sp.c5,sp.c6]
        refine LResY.mk [0] ?_
        simp only [mvcgen_simp,method_specs_simp,seval,wen,sp.c1,sp.c2,sp.c3,sp.c4,sp.c5,sp.c6,hln]
       ·simp only [method_specs_simp,seval,wen,sp.c1,sp.c2,sp.c3,sp.c4,sp.c5,sp.c6,df k4]
        refine LResY.mk [0] ?_
        simp only [mvcgen_simp,method_specs_simp,seval,wen,sp.c1,sp.c2,sp.c3,sp.c4,sp.c5,sp.c6,hln,sp.no2 fun h=>k4 h.2]
    ·have e0:=sp.no0 fun h=>k1 h.1
     have e2:=sp.no2 fun h=>k1 h.1
     simp only [method_specs_simp,seval,wen,sp.c1,sp.c2,sp.c3,sp.c4,sp.c5,sp.c6,df k1,e0]
     by_cases k2 : 0 < t
     ·simp only [method_specs_simp,seval,wen,sp.c1,sp.c2,sp.c3,sp.c4,sp.c5,sp.c6,dt k2]
      by_cases k3 : 0 < u
      ·simp only [method_specs_simp,seval,wen,sp.c1,sp.c2,sp.c3,sp.c4,sp.c5,sp.c6,dt k3]
       refine clY.live [0] [] (sp.rec1 k3 k2) ?_ (by simp) ?_
       ·simp only [mvcgen_simp,method_specs_simp,seval,wen,sp.c1,sp.c2,sp.c3,sp.c4,sp.c5,sp.c6]
       simp only [method_specs_simp,seval,wen,sp.c1,sp.c2,sp.c3,sp.c4,sp.c5,sp.c6,df k1]
       refine LResY.mk [0] ?_
       simp only [mvcgen_simp,method_specs_simp,seval,wen,sp.c1,sp.c2,sp.c3,sp.c4,sp.c5,sp.c6,hln,e2]
      ·simp only [method_specs_simp,seval,wen,sp.c1,sp.c2,sp.c3,sp.c4,sp.c5,sp.c6,df k3]
       refine LResY.mk [0] ?_
       simp only [mvcgen_simp,method_specs_simp,seval,wen,sp.c1,sp.c2,sp.c3,sp.c4,sp.c5,sp.c6,hln,sp.no1 fun h=>k3 h.1,e2]
     ·simp only [method_specs_simp,seval,wen,sp.c1,sp.c2,sp.c3,sp.c4,sp.c5,sp.c6,df k2]
      by_cases k3 : 0 < u
      ·simp only [method_specs_simp,seval,wen,sp.c1,sp.c2,sp.c3,sp.c4,sp.c5,sp.c6,dt k3]
       refine LResY.mk [0] ?_
       simp only [mvcgen_simp,method_specs_simp,seval,wen,sp.c1,sp.c2,sp.c3,sp.c4,sp.c5,sp.c6,hln,sp.no1 fun h=>k2 h.2,e2]
      ·simp only [method_specs_simp,seval,wen,sp.c1,sp.c2,sp.c3,sp.c4,sp.c5,sp.c6,df k3]
       refine LResY.mk [0] ?_
       simp only [mvcgen_simp,method_specs_simp,seval,wen,sp.c1,sp.c2,sp.c3,sp.c4,sp.c5,sp.c6,hln,sp.no1 fun h=>k2 h.2,e2]
theorem n_symMerge {d : Int → Int} (c : FuncId) (dl : List Int) : ∀ (s : Nat) {l l' : List Int} {n a m b : Nat} {A L R B : List Int},L.length + R.length ≤ s → MG P d c dl l l' n a m b A L R B →
  LCon P 157 [.ar 0 0 n,.int .i64 a,.int .i64 m,.int .i64 b,.fn c [] [.fptr [.sl 1 (dl.map encI)] 0]] [.arr true 1 (l.map encI)] (.tup []) [.arr true 1 (l'.map encI)]
 | 0,l,l',n,a,m,b,A,L,R,B,hz,g=>by have:=g.l1; omega
 | s + 1,l,l',n,a,m,b,A,L,R,B,hz,g=>by
   by_cases c1 : L.length = 1
   ·exact n_sym1 c dl g c1
   ·by_cases c2 : R.length = 1
    ·exact n_sym2 c dl g c1 c2
    ·exact n_symG c dl g c1 c2 fun h g'=>n_symMerge c dl s (by omega) g'
end
section
variable {P : Program} [Is P]
theorem n_stable {d : Int → Int} (c : FuncId) (dl : List Int) {l : List Int} {n : Nat} (hc : ∀ x ∈ l,∀ y ∈ l,Con P c [.int .i64 x,.int .i64 y,.fptr [.sl 1 (dl.map encI)] 0] (.int .i64 (cmpI (d x) (d y)))) (hs : StD d l) (hn : l.length = n) (hlt : n < 2 ^ 58) :
  LCon P 110 [.ar 0 0 n,.int .i64 n,.fn c [] [.fptr [.sl 1 (dl.map encI)] 0]] [.arr true 1 (l.map encI)] (.tup []) [.arr true 1 ((srtD d l).map encI)]:=by
 refine LCon.of (n:=63) (rs:=[]) (Is.fn Tryz.func110) rfl (Is.call Tryz.call110) Tryz.results110 Tryz.ntmps110 ?_
 simp only [method_specs_simp,seval]
 refine SW.while (A:=Nat × Nat × List Int) (fun p=>⟨pad 63 [.ar 0 0 n,.int .i64 n,.fn c [] [.fptr [.sl 1 (dl.map encI)] 0],.junk,.junk,.junk,.int .i64 20,.int .i64 p.1,.int .i64 p.2.1],[.arr true 1 (p.2.2.map encI)],[.ar 0 0 n,.eptr 0 1 0]⟩)
  (fun p=>n + 20 - p.1) (fun p=>p.2.1 = p.1 + 20 ∧ ∃ Q,Gm.Stg0 d l 20 n p.1 Q p.2.2) (0,20,l) [0] ⟨rfl,[],rfl,Zj _,hn,rfl,rfl⟩ ?_ ?_
 ·simp only [mvcgen_simp,method_specs_simp,seval]
  exact hn.symm
 ·rintro ⟨a,b,z⟩ ⟨hb,Q,sg⟩
  simp only at hb sg
  have hzl:=sg.len
  refine CW.sound ?_
  simp only [method_specs_simp,seval,hzl]
  refine gB_split (fun h=>?_) (fun h=>?_)
  ·simp only [decide_eq_true_eq,Ym] at h
   obtain ⟨X,B,e1,e2,e3,e4,sg2⟩:=sg.round (by decide) (by omega) hs
   refine clY.live [0] [] (n_insert (n:=n) (a:=a) (b:=b) (A:=Q) (X:=X) (B:=B) (l:=z) c dl (fun x hx y hy=>hc x (e4 x hx) y (e4 y hy)) e1 rfl sg.hP.symm (by omega) e3 hzl.symm (by omega)) ?_ (by simp) ?_
   ·simp only [mvcgen_simp,method_specs_simp,seval]
   have wb : IntKind.i64.wrap ((b : Int) + 20) = ((b + 20 : Nat) : Int):=wadd b 20 (by omega)
   simp only [method_specs_simp,seval,wb]
   refine Again.mk (b,b + 20,Q ++ (srtD d X ++ B)) [0] ⟨rfl,_,by rw [hb]; exact sg2⟩ (by simp only; omega) ?_
   simp only [mvcgen_simp,method_specs_simp,seval]
  ·simp only [decide_eq_false_iff_not,Zd,Ym] at h
   obtain ⟨X,e1,e2,e3,e4,e5⟩:=sg.last (by omega) hs
   refine clY.live [0] [] (n_insert (n:=n) (a:=a) (b:=n) (A:=Q) (X:=X) (B:=[]) (l:=z) c dl (fun x hx y hy=>hc x (e4 x hx) y (e4 y hy)) e1 rfl sg.hP.symm (by omega) e3 hzl.symm (by omega)) ?_ (by simp) ?_
   ·simp only [mvcgen_simp,method_specs_simp,seval]
   rw [← e5]
   refine SW.while (A:=Nat) (fun bs=>⟨pad 63 [.ar 0 0 n,.int .i64 n,.fn c [] [.fptr [.sl 1 (dl.map encI)] 0],.junk,.junk,.junk,.int .i64 bs],[.arr true 1 ((Gm.blk d bs l).map encI)],[.ar 0 0 n,.eptr 0 1 0]⟩)
    (fun bs=>n - bs) (fun bs=>20 ≤ bs ∧ bs < 2 ^ 59) 20 [0] ⟨Zg _,by decide⟩ ?_ ?_
   ·simp only [mvcgen_simp,method_specs_simp,seval]
   ·rintro bs ⟨h20,hbs⟩
    refine CW.sound ?_
    simp only [method_specs_simp,seval]
    refine gB_split (fun h1=>?_) (fun h1=>?_)
    ·simp only [decide_eq_true_eq,Za] at h1
     have w2 : IntKind.i64.wrap (2 * (bs : Int)) = ((2 * bs : Nat) : Int):=by rw [wrap_id (by omega) (by omega)]; omega
     obtain ⟨b2,hb2⟩ : ∃ b2,b2 = 2 * bs:=⟨_,rfl⟩
     rw [w2,← hb2]
     refine SW.while (A:=Nat × Nat × List Int) (fun p=>⟨pad 63 [.ar 0 0 n,.int .i64 n,.fn c [] [.fptr [.sl 1 (dl.map encI)] 0],.junk,.junk,.junk,.int .i64 bs,.int .i64 p.1,.int .i64 p.2.1],[.arr true 1 (p.2.2.map encI)],[.ar 0 0 n,.eptr 0 1 0]⟩)
      (fun p=>n + b2 - p.1) (fun p=>p.2.1 = p.1 + b2 ∧ ∃ Q,Gm.Stg d l bs (2 * bs) n p.1 Q p.2.2) (0,b2,Gm.blk d bs l) [0] ⟨by simp only; omega,[],Gm.Stg.start hn⟩ ?_ ?_
     ·simp only [mvcgen_simp,method_specs_simp,seval]
     ·rintro ⟨a,b,z⟩ ⟨hb,Q,sg⟩
      simp only at hb sg
      have hzl:=sg.len
      have ha:=sg.ha
      have wm : IntKind.i64.wrap ((a : Int) + (bs : Int)) = ((a + bs : Nat) : Int):=wadd a bs (by omega)
      obtain ⟨m,hm⟩ : ∃ m,m = a + bs:=⟨_,rfl⟩
      rw [← hm] at wm
      refine CW.sound ?_
      simp only [method_specs_simp,seval,hzl]
      refine gB_split (fun h2=>?_) (fun h2=>?_)
      ·simp only [decide_eq_true_eq,Ym] at h2
       obtain ⟨L,R,B,z',e1,e2,e3,e4,e5,e6,e7,e8,sg2⟩:=sg.round (by omega) (by omega) hs
       have hmg : MG P d c dl z z' n a m b Q L R B:=⟨e1,e2,sg.hP.symm,by omega,by omega,by omega,by omega,e5,e6,e7,fun x hx y hy=>hc x (e8 x hx) y (e8 y hy),hzl.symm,by omega⟩
       simp only [method_specs_simp,seval,wm]
       refine clY.live [0] [] (n_symMerge c dl _ (Zg _) hmg) ?_ (by simp) ?_
       ·simp only [mvcgen_simp,method_specs_simp,seval]
       have wb : IntKind.i64.wrap ((b : Int) + IntKind.i64.wrap (2 * (bs : Int))) = ((b + b2 : Nat) : Int):=by rw [w2,← hb2]; exact wadd b b2 (by omega)
       obtain ⟨bb,hbb⟩ : ∃ bb,bb = b + b2:=⟨_,rfl⟩
       rw [← hbb] at wb
       simp only [method_specs_simp,seval,wb]
       refine Again.mk (b,bb,z') [0] ⟨hbb,_,by rw [hb,hb2]; exact sg2⟩ (by simp only; omega) ?_
       simp only [mvcgen_simp,method_specs_simp,seval]
      ·simp only [decide_eq_false_iff_not,Zd,Ym] at h2
       have wq : IntKind.i64.wrap ((bs : Int) * 2) = (b2 : Int):=by rw [wrap_id (by omega) (by omega)]; omega
       simp only [method_specs_simp,seval,wm]
       refine gB_split (fun h3=>?_) (fun h3=>?_)
       ·simp only [decide_eq_true_eq,Za] at h3
        obtain ⟨L,R,e1,e2,e3,e4,e5,e6,e7,e8⟩:=sg.last (by omega) (by omega) (by omega) hs
        have hmg : MG P d c dl z (Gm.blk d (2 * bs) l) n a m n Q L R []:=⟨e1,e2,sg.hP.symm,by omega,by omega,by omega,by omega,e5,e6,e7,fun x hx y hy=>hc x (e8 x hx) y (e8 y hy),hzl.symm,by omega⟩
        refine clY.live [0] [] (n_symMerge c dl _ (Zg _) hmg) ?_ (by simp) ?_
        ·simp only [mvcgen_simp,method_specs_simp,seval]
        simp only [method_specs_simp,seval,wq]
        refine Again.mk b2 [0] ⟨by omega,by omega⟩ (by omega) ?_
        rw [← hb2]
        simp only [mvcgen_simp,method_specs_simp,seval]
       ·simp only [decide_eq_false_iff_not,Zd,Za] at h3
        have hz2:=sg.rest (by omega)
        simp only [method_specs_simp,seval,wq]
        refine Again.mk b2 [0] ⟨by omega,by omega⟩ (by omega) ?_
        rw [hz2,← hb2]
        simp only [mvcgen_simp,method_specs_simp,seval]
    ·simp only [decide_eq_false_iff_not,Zd,Za] at h1
     have hz2:=Gm.blk_small (d:=d) (bs:=bs) (l:=l) (by omega)
     refine LResY.mk [0] ?_
     simp only [mvcgen_simp,method_specs_simp,seval,hz2,Gm.blk_len]
     exact hn
theorem n_sortStable {d : Int → Int} (c : FuncId) (dl : List Int) {l : List Int} {n : Nat} (hc : ∀ x ∈ l,∀ y ∈ l,Con P c [.int .i64 x,.int .i64 y,.fptr [.sl 1 (dl.map encI)] 0] (.int .i64 (cmpI (d x) (d y)))) (hs : StD d l) (hn : l.length = n) (hlt : n < 2 ^ 58) :
  LCon P 89 [.ar 0 0 n,.fn c [] [.fptr [.sl 1 (dl.map encI)] 0]] [.arr true 1 (l.map encI)] (.tup []) [.arr true 1 ((srtD d l).map encI)]:=by
 refine LCon.of (n:=9) (rs:=[]) (Is.fn Tryz.func89) rfl (Is.call Tryz.call89) Tryz.results89 Tryz.ntmps89 ?_
 simp only [method_specs_simp,seval]
 refine clY.live [0] [] (n_stable c dl hc hs hn hlt) ?_ (by simp) ?_
 ·simp only [mvcgen_simp,method_specs_simp,seval]
 simp only [method_specs_simp,seval]
 refine LResY.mk [0] ?_
 simp only [mvcgen_simp,method_specs_simp,seval,hn]
end
end Go.Proofs.YtlgeggpcnbbjdaaGreat
end
section
namespace Go.Proofs.YtlgeggpcnbbjdaaGreat
open Go.Pm
open Go.Gm (Ev Gr LtD ltD StD srtD)
def rangeI (k : Nat) : List Int:=(YB k).map fun i : Nat=>(i : Int)
theorem rangeI_len (k : Nat) : (rangeI k).length = k:=by simp [rangeI]
theorem rangeI_succ (k : Nat) : rangeI (k + 1) = rangeI k ++ [(k : Int)]:=by simp [rangeI,List.range_succ]
theorem rangeI_mem {k : Nat} {x : Int} : x ∈ rangeI k ↔ ∃ i : Nat,i < k ∧ x = (i : Int):=by
 simp only [rangeI,ZQ,List.mem_range]
 exact ⟨fun ⟨i,h,e⟩=>⟨i,h,e.symm⟩,fun ⟨i,h,e⟩=>⟨i,h,e.symm⟩⟩
theorem rangeI_std (d : Int → Int) (k : Nat) : StD d (rangeI k):=by
 unfold StD rangeI
 rw [Yn]
 refine List.Pairwise.imp (fun {a b} h _=>?_) YV
 omega
def dpl (dl : List Int) (x : Int) : Int:=dl.getD x.toNat 0
def idAtP (evs : List Ev) (x : Int) : Int:=match evs[x.toNat]? with
 | some e=>e.id
 | none=>0
def orderE (evs : List Ev) : List Int:=(srtD (dpl (Gm.depthsE evs)) (rangeI evs.length)).map (idAtP evs)
theorem orderE_len (evs : List Ev) : (orderE evs).length = evs.length:=by simp [orderE,Gm.srtD_len,rangeI_len]
section
variable {P : Program} [Is P]
theorem c_orderC (dl : List Int) (hd : dl.length < 2 ^ 60) (x y : Int) (hx : x ∈ rangeI dl.length) (hy : y ∈ rangeI dl.length) : Con P 90 [.int .i64 x,.int .i64 y,.fptr [.sl 1 (dl.map encI)] 0] (.int .i64 (cmpI (dpl dl x) (dpl dl y))):=by
 obtain ⟨i,hi,rfl⟩:=rangeI_mem.1 hx
 obtain ⟨j,hj,rfl⟩:=rangeI_mem.1 hy
 obtain ⟨u,hu⟩ : ∃ u,dl[i]? = some u:=⟨_,Zc hi⟩
 obtain ⟨v,hv⟩ : ∃ v,dl[j]? = some v:=⟨_,Zc hj⟩
 have e1 : dpl dl (i : Int) = u:=by unfold dpl; rw [ZB,ZE,hu]; rfl
 have e2 : dpl dl (j : Int) = v:=by unfold dpl; rw [ZB,ZE,hv]; rfl
 rw [e1,e2]
 refine Con.of (n:=15) (rs:=[.tmp 5]) (Is.fn Tryz.func90) rfl (Is.call Tryz.call90) Tryz.results90 Tryz.ntmps90 trivial ?_
 simp only [method_specs_simp,seval]
 simp only [method_specs_simp,seval,hu,hv,encI]
 refine ⟨by kernel_rfl,by omega,by omega,by omega,by omega,?_⟩
 refine clY.con (c172 u v) (by simp only [method_specs_simp]) ?_
 simp only [method_specs_simp,seval]
theorem n_order (g : Gr) (hx : EvsOK g.events) (hs : Gm.Srt g.events) (hin : ∀ e ∈ g.events,Gm.allIn g.events e = true) : NCon P 71 [.agg (encGr g)] (.ar 0 0 g.events.length) [.arr true 1 ((orderE g.events).map encI)]:=by
 have hx1:=hx.1
 have hdl:=(Gm.depths_ok g.events).len
 refine LCon.new (LCon.of (n:=48) (rs:=[.tmp 2]) (Is.fn Tryz.func71) rfl (Is.call Tryz.call71) Tryz.results71 Tryz.ntmps71 ?_) (pure1 (pure_ints _ _))
 simp only [method_specs_simp,seval,encGr]
 refine clY.con (c_depths g hx hs hin) (by simp only [method_specs_simp,encGr]) ?_
 simp only [method_specs_simp,seval,encGr]
 obtain ⟨dl,hdd⟩ : ∃ dl,dl = Gm.depthsE g.events:=⟨_,rfl⟩
 rw [← hdd]
 refine SW.while (A:=Nat) (fun i=>⟨pad 48 [.junk,.ptr 0 0,.nil,.ptr 1 0,.junk,.ar 2 0 i,.junk,.junk,.junk,.junk,.junk,.junk,.junk,.junk,.junk,.junk,.junk,.junk,.int .i64 g.events.length,.int .i64 i],[.box true (encGr g),.box true [.sl 1 (dl.map encI)],.arr true 1 ((rangeI i).map encI)],[]⟩) (fun i=>g.events.length - i) (fun i=>i ≤ g.events.length) 0 [0,1,2] (Zj _) ?_ ?_
 ·simp only [mvcgen_simp,method_specs_simp,seval,encGr,rangeI,List.range_zero,Ya]
 ·intro i hi
  have hrl:=rangeI_len i
  refine CW.sound ?_
  simp only [method_specs_simp,seval,encGr,hrl]
  refine gB_split (fun h=>?_) (fun h=>?_)
  ·simp only [decide_eq_true_eq,Za] at h
   have w1 : IntKind.i64.wrap ((i : Int) + 1) = ((i + 1 : Nat) : Int):=wadd1 i (by omega)
   simp only [method_specs_simp,seval,encGr,w1,hrl]
   have e1 : (rangeI i).map encI ++ [[V.int IntKind.i64 (i : Int)]] = (rangeI (i + 1)).map encI:=by rw [rangeI_succ,Zs]; rfl
   refine ⟨by omega,by omega,?_⟩
   refine Again.mk (i + 1) [0,1,4] h (Zl h (Zk _)) ?_
   rw [e1]
   simp only [mvcgen_simp,method_specs_simp,seval,encGr]
  ·have hi2 : i = g.events.length:=by simp only [decide_eq_false_iff_not,Zd,Za] at h; omega
   have hdn : dl.length = i:=by rw [hdd,hdl,hi2]
   refine clY.live [2] [1] (n_sortStable (d:=dpl dl) 90 dl (n:=i) (l:=rangeI i) (fun x hx y hy=>c_orderC dl (by omega) x y (by rw [hdn]; exact hx) (by rw [hdn]; exact hy)) (rangeI_std _ _) hrl (by omega)) ?_ (by simp) ?_
   ·simp only [mvcgen_simp,method_specs_simp,seval,encGr,hrl]
   simp only [method_specs_simp,seval,encGr]
   obtain ⟨ps,hps⟩ : ∃ ps,ps = srtD (dpl dl) (rangeI i):=⟨_,rfl⟩
   have hpl : ps.length = i:=by rw [hps,Gm.srtD_len,hrl]
   have hpm : ∀ x ∈ ps,∃ k : Nat,k < i ∧ x = (k : Int):=fun x hx=>rangeI_mem.1 ((Gm.srtD_perm _ _).subset (by rw [← hps]; exact hx))
   have hor : orderE g.events = ps.map (idAtP g.events):=by unfold orderE; rw [hps,← hdd,hi2]
   rw [← hps,← hi2]
   refine SW.while (A:=Nat) (fun j=>⟨pad 48 [.junk,.ptr 0 0,.nil,.junk,.junk,.junk,.junk,.ar 2 0 j,.junk,.junk,.junk,.junk,.junk,.junk,.junk,.junk,.junk,.junk,.junk,.junk,.junk,.junk,.junk,.junk,.junk,.junk,.junk,.junk,.junk,.junk,.junk,.ar 1 0 i,.int .i64 i,.int .i64 j],[.box true (encGr g),.arr true 1 (ps.map encI),.arr true 1 (((ps.take j).map (idAtP g.events)).map encI)],[]⟩) (fun j=>i - j) (fun j=>j ≤ i) 0 [0,2,3] (Zj _) ?_ ?_
   ·simp only [mvcgen_simp,method_specs_simp,seval,encGr,YC,Ya]
   ·intro j hj
    have hol : ((ps.take j).map (idAtP g.events)).length = j:=by rw [Zi,Zq]; omega
    refine CW.sound ?_
    simp only [method_specs_simp,seval,encGr,hpl]
    refine gB_split (fun h1=>?_) (fun h1=>?_)
    ·simp only [decide_eq_true_eq,Za] at h1
     obtain ⟨x,hx⟩ : ∃ x,ps[j]? = some x:=⟨_,Zc (by omega)⟩
     obtain ⟨k,hk,rfl⟩:=hpm x (Zn hx)
     obtain ⟨e,he⟩ : ∃ e,g.events[k]? = some e:=⟨_,Zc (by omega)⟩
     have hid : idAtP g.events (k : Int) = e.id:=by unfold idAtP; rw [ZB,he]
     have w1 : IntKind.i64.wrap ((j : Int) + 1) = ((j + 1 : Nat) : Int):=wadd1 j (by omega)
     have e1 : ((ps.take j).map (idAtP g.events)).map encI ++ [[V.int .i64 e.id]] = ((ps.take (j + 1)).map (idAtP g.events)).map encI:=by
      rw [ZA,hx,ZC,Zs,Zs,ZV,ZV,hid]; rfl
     simp only [method_specs_simp,seval,encGr,w1,hol,hx,he,encI,encEv,hpl]
     refine ⟨by omega,by omega,by omega,by omega,by omega,by omega,?_⟩
     refine Again.mk (j + 1) [0,1,4] h1 (Zl h1 (Zk _)) ?_
     rw [e1]
     simp only [mvcgen_simp,method_specs_simp,seval,encGr]
    ·have hj2 : j = i:=by simp only [decide_eq_false_iff_not,Zd,Za] at h1; omega
     subst hj2
     have e2 : (ps.take j).map (idAtP g.events) = orderE g.events:=by rw [hor,Zm (by omega)]
     refine LResY.mk [2] ?_
     simp only [mvcgen_simp,method_specs_simp,seval,encGr,e2]
end
theorem sub_erase {l m : List Int} {x : Int} (hx : x ∉ l) (h : l ⊆ m) : l ⊆ m.erase x:=fun y hy=>by
 have hne : y ≠ x:=fun e=>hx (e ▸ hy)
 exact (List.mem_erase_of_ne hne).2 (h hy)
theorem nodup_len : ∀ {l m : List Int},l.Nodup → l ⊆ m → l.length ≤ m.length
 | [],m,_,_=>Zj _
 | x :: l,m,hn,h=>by
   have h1:=YD.1 hn
   have hx : x ∈ m:=h Zv
   have:=nodup_len h1.2 (sub_erase h1.1 fun y hy=>h (ZO _ hy))
   rw [YW hx] at this
   have:=YX hx
   simp only [Zw]; omega
theorem nodup_perm : ∀ {l m : List Int},l.Nodup → l ⊆ m → m.length ≤ l.length → l.Perm m
 | [],m,_,_,hl=>by
   have : m = []:=YT (by simpa using hl)
   rw [this]
 | x :: l,m,hn,h,hl=>by
   have h1:=YD.1 hn
   have hx : x ∈ m:=h Zv
   have hp:=YX hx
   have:=nodup_perm h1.2 (sub_erase h1.1 fun y hy=>h (ZO _ hy)) (by rw [YW hx]; simp only [Zw] at hl; omega)
   exact (this.cons x).trans (List.perm_cons_erase hx).symm
def lvl (dl : List Int) (k : Int) (i : Nat) : List Int:=(rangeI i).filter fun x=>dpl dl x == k
def upto (dl : List Int) : Nat → List Int
 | 0=>[]
 | k + 1=>upto dl k ++ lvl dl (k : Int) dl.length
theorem upto_mem {dl : List Int} : ∀ {k : Nat} {x : Int},x ∈ upto dl k ↔ x ∈ rangeI dl.length ∧ 0 ≤ dpl dl x ∧ dpl dl x < k
 | 0,x=>⟨fun h=>by simp [upto] at h,fun h=>by omega⟩
 | k + 1,x=>by
   rw [upto,ZG,upto_mem,lvl,Yo,beq_iff_eq]
   constructor
   ·rintro (⟨h1,h2,h3⟩ | ⟨h1,h2⟩)
    ·exact ⟨h1,h2,by omega⟩
    ·exact ⟨h1,by omega,by omega⟩
   ·rintro ⟨h1,h2,h3⟩
    by_cases h : dpl dl x = k
    ·exact .inr ⟨h1,h⟩
    ·exact .inl ⟨h1,h2,by omega⟩
theorem rangeI_lt (k : Nat) : (rangeI k).Pairwise (· < ·):=by
 unfold rangeI
 rw [Yn]
 exact List.Pairwise.imp (fun {a b} h=>by omega) YV
theorem upto_sorted (dl : List Int) : ∀ k,(upto dl k).Pairwise (LtD (dpl dl))
 | 0=>List.Pairwise.nil
 | k + 1=>by
   rw [upto]
   refine ZN.2 ⟨upto_sorted dl k,?_,fun x hx y hy=>?_⟩
   ·refine List.Pairwise.imp_of_mem (fun {a b} ha hb h=>?_) ((rangeI_lt dl.length).sublist Yp)
    rw [lvl,Yo,beq_iff_eq] at ha hb
    rw [Gm.ltD_iff]
    exact .inr ⟨by omega,h⟩
   ·have h1:=(upto_mem.1 hx).2
    rw [lvl,Yo,beq_iff_eq] at hy
    rw [Gm.ltD_iff]
    exact .inl (by omega)
theorem lt_nodup {dl : List Int} {l : List Int} (h : l.Pairwise (LtD (dpl dl))) : l.Nodup:=List.Pairwise.imp (fun {x y} h e=>by subst e; exact (Gm.ltD_str _).irr _ h) h
theorem upto_all {dl : List Int} {k : Nat} (hnn : ∀ x ∈ rangeI dl.length,0 ≤ dpl dl x) (hk : dl.length ≤ (upto dl k).length) : upto dl k = srtD (dpl dl) (rangeI dl.length):=by
 have hnd:=lt_nodup (upto_sorted dl k)
 have hsub : upto dl k ⊆ rangeI dl.length:=fun x hx=>(upto_mem.1 hx).1
 refine Gm.srtD_of ?_ (upto_sorted dl k)
 exact nodup_perm hnd hsub (by rw [rangeI_len]; exact hk)
theorem upto_len_le (dl : List Int) (k : Nat) : (upto dl k).length ≤ dl.length:=by
 have h1:=nodup_len (lt_nodup (upto_sorted dl k)) (fun x hx=>(upto_mem.1 hx).1 : upto dl k ⊆ rangeI dl.length)
 rwa [rangeI_len] at h1
theorem upto_more {dl : List Int} {k : Nat} (hnn : ∀ x ∈ rangeI dl.length,0 ≤ dpl dl x) (hk : (upto dl k).length < dl.length) : ∃ x ∈ rangeI dl.length,(k : Int) ≤ dpl dl x:=by
 by_cases h : ∃ x ∈ rangeI dl.length,(k : Int) ≤ dpl dl x
 ·exact h
 ·exfalso
  have hsub : rangeI dl.length ⊆ upto dl k:=fun x hx=>upto_mem.2 ⟨hx,hnn x hx,by
   by_cases h2 : (k : Int) ≤ dpl dl x
   ·exact absurd ⟨x,hx,h2⟩ h
   ·omega⟩
  have hn : (rangeI dl.length).Nodup:=(rangeI_std (fun _=>0) _).nodup
  have:=nodup_len hn hsub
  rw [rangeI_len] at this
  omega
theorem lvl_succ {dl : List Int} {k : Int} {i : Nat} {x : Int} (h : dl[i]? = some x) : lvl dl k (i + 1) = lvl dl k i ++ (if (x == k) = true then [(i : Int)] else []):=by
 have e : dpl dl (i : Int) = x:=by unfold dpl; rw [ZB,ZE,h]; rfl
 unfold lvl
 rw [rangeI_succ,List.filter_append]
 congr 1
 rw [List.filter_cons,e]
 cases hx : x == k <;> rfl
theorem lvl_zero (dl : List Int) (k : Int) : lvl dl k 0 = []:=rfl
theorem iter_bd {evs : List Ev} : ∀ (k : Nat) {d : List Int},Gm.OkD evs d → Gm.BdD evs d → Gm.BdD evs (Gm.iterD evs k d)
 | 0,d,_,h=>h
 | k + 1,d,h,hb=>iter_bd k (by exact Gm.passK_ok h _) (by exact Gm.passK_bd h hb _)
theorem depths_bd (evs : List Ev) : ∀ x ∈ Gm.depthsE evs,x ≤ evs.length:=fun x hx=>by
 have:=iter_bd evs.length (Gm.OkD.zero evs) (Gm.BdD.zero evs) x hx
 omega
theorem dpl_mem {dl : List Int} {x : Int} (h : x ∈ rangeI dl.length) : dpl dl x ∈ dl:=by
 obtain ⟨i,hi,rfl⟩:=rangeI_mem.1 h
 unfold dpl
 rw [ZB,ZE,Zc hi]
 exact YE hi
theorem upto_one {dl : List Int} (hpos : ∀ x ∈ dl,1 ≤ x) : upto dl 1 = []:=by
 rw [List.eq_nil_iff_forall_not_mem]
 intro x hx
 have h:=upto_mem.1 hx
 have:=hpos _ (dpl_mem h.1)
 omega
def outL (dl : List Int) (k i : Nat) : List Int:=upto dl k ++ lvl dl (k : Int) i
theorem outL_zero (dl : List Int) (k : Nat) : outL dl k 0 = upto dl k:=by unfold outL; rw [lvl_zero,ZF]
theorem outL_yes {dl : List Int} {k i : Nat} {x : Int} (h : dl[i]? = some x) (hx : (x == (k : Int)) = true) : outL dl k (i + 1) = outL dl k i ++ [(i : Int)]:=by
 unfold outL; rw [lvl_succ h,if_pos hx,Zh]
theorem outL_no {dl : List Int} {k i : Nat} {x : Int} (h : dl[i]? = some x) (hx : (x == (k : Int)) = false) : outL dl k (i + 1) = outL dl k i:=by
 unfold outL; rw [lvl_succ h,hx,if_neg (by simp),ZF]
theorem outL_len (dl : List Int) (k i : Nat) : (outL dl k i).length ≤ dl.length + i:=by
 have h5:=Yq (fun x=>dpl dl x == (k : Int)) (rangeI i)
 rw [rangeI_len] at h5
 have:=upto_len_le dl k
 unfold outL; rw [Zb]; unfold lvl; omega
section
variable {P : Program} [Is P]
theorem c_l03Sort (g : Gr) (hx : EvsOK g.events) (hin : ∀ e ∈ g.events,Gm.allIn g.events e = true) (hpos : ∀ x ∈ Gm.depthsE g.events,1 ≤ x) : Con P 102 [.agg (encGr g)] (.sl 1 ((orderE g.events).map encI)):=by
 have hx1:=hx.1
 have hdl:=(Gm.depths_ok g.events).len
 refine Con.of (n:=42) (rs:=[.tmp 2]) (Is.fn Tryz.func102) rfl (Is.call Tryz.call102) Tryz.results102 Tryz.ntmps102 (by simp only [method_specs_simp]) ?_
 simp only [method_specs_simp,seval,encGr]
 refine clY.con (c_l03Depths g.events hx hin) (by simp only [method_specs_simp,encGr]) ?_
 simp only [method_specs_simp,seval,encGr]
 obtain ⟨dl,hdd⟩ : ∃ dl,dl = Gm.depthsE g.events:=⟨_,rfl⟩
 rw [← hdd] at hdl hpos
 rw [← hdd]
 have hnn : ∀ x ∈ rangeI dl.length,0 ≤ dpl dl x:=fun x hx=>by have:=hpos _ (dpl_mem hx); omega
 have hbd : ∀ x ∈ rangeI dl.length,dpl dl x ≤ g.events.length:=fun x hx=>depths_bd g.events _ (by rw [← hdd]; exact dpl_mem hx)
 refine SW.while (A:=Nat) (fun k=>⟨pad 42 [.junk,.ptr 0 0,.nil,.sl 1 (dl.map encI),.ar 1 0 (upto dl k).length,.int .i64 k],[.box true (encGr g),.arr true 1 (((upto dl k).map (idAtP g.events)).map encI)],[]⟩) (fun k=>g.events.length + 1 - k) (fun k=>1 ≤ k ∧ k ≤ g.events.length + 1) 1 [0,1] ⟨Zg _,by omega⟩ ?_ ?_
 ·simp only [mvcgen_simp,method_specs_simp,seval,encGr,upto_one hpos,Ya,ZL]
 ·rintro k ⟨hk1,hk2⟩
  have hul:=upto_len_le dl k
  refine CW.sound ?_
  simp only [method_specs_simp,seval,encGr]
  refine gB_split (fun h=>?_) (fun h=>?_)
  ·simp only [decide_eq_true_eq,Za] at h
   obtain ⟨x,hx2,hx3⟩:=upto_more hnn (k:=k) (by omega)
   have hkn:=hbd x hx2
   refine SW.while (A:=Nat) (fun i=>⟨pad 42 [.junk,.ptr 0 0,.nil,.sl 1 (dl.map encI),.ar 1 0 (outL dl k i).length,.int .i64 k,.int .i64 i],[.box true (encGr g),.arr true 1 (((outL dl k i).map (idAtP g.events)).map encI)],[]⟩) (fun i=>g.events.length - i) (fun i=>i ≤ g.events.length) 0 [0,1] (Zj _) ?_ ?_
   ·simp only [mvcgen_simp,method_specs_simp,seval,encGr,outL_zero]
   ·intro i hi
    have hol:=outL_len dl k i
    refine CW.sound ?_
    simp only [method_specs_simp,seval,encGr]
    refine gB_split (fun h1=>?_) (fun h1=>?_)
    ·simp only [decide_eq_true_eq,Za] at h1
     obtain ⟨v,hv⟩ : ∃ v,dl[i]? = some v:=⟨_,Zc (by omega)⟩
     obtain ⟨e,he⟩ : ∃ e,g.events[i]? = some e:=⟨_,Zc h1⟩
     have hid : idAtP g.events (i : Int) = e.id:=by unfold idAtP; rw [ZB,he]
     have w1 : IntKind.i64.wrap ((i : Int) + 1) = ((i + 1 : Nat) : Int):=wadd1 i (by omega)
     simp only [method_specs_simp,seval,encGr,hv,encI,hdl]
     refine ⟨by omega,by omega,?_⟩
     cases hvk : v == (k : Int) with
     | true =>
      have hsu:=outL_yes hv hvk
      have e1 : ((outL dl k i).map (idAtP g.events)).map encI ++ [[V.int .i64 e.id]] = ((outL dl k (i + 1)).map (idAtP g.events)).map encI:=by
       rw [hsu,Zs,Zs,ZV,ZV,hid]; rfl
      have e2 : (outL dl k (i + 1)).length = (outL dl k i).length + 1:=by rw [hsu,Zb]; rfl
      simp only [method_specs_simp,seval,encGr,he,encEv,w1]
      refine ⟨by omega,by omega,by omega,by omega,?_⟩
      refine Again.mk (i + 1) [0,3] h1 (Zl h1 (Zk _)) ?_
      rw [e1,← e2]
      simp only [mvcgen_simp,method_specs_simp,seval,encGr]
     | false =>
      have hsu:=outL_no hv hvk
      simp only [method_specs_simp,seval,encGr]
      refine Again.mk (i + 1) [0,1] h1 (Zl h1 (Zk _)) ?_
      rw [hsu,w1]
      simp only [mvcgen_simp,method_specs_simp,seval,encGr]
    ·have hi2 : i = g.events.length:=by simp only [decide_eq_false_iff_not,Zd,Za] at h1; omega
     have w1 : IntKind.i64.wrap ((k : Int) + 1) = ((k + 1 : Nat) : Int):=wadd1 k (by omega)
     have e3 : outL dl k i = upto dl (k + 1):=by rw [hi2,← hdl]; rfl
     simp only [method_specs_simp,seval,encGr,w1]
     refine Again.mk (k + 1) [0,1] ⟨by omega,by omega⟩ (by omega) ?_
     rw [e3]
     simp only [mvcgen_simp,method_specs_simp,seval,encGr]
  ·simp only [decide_eq_false_iff_not,Zd,Za] at h
   have e4 : (upto dl k).map (idAtP g.events) = orderE g.events:=by
    unfold orderE
    rw [upto_all hnn (by omega),← hdd,hdl]
   have e5 : (upto dl k).length = ((upto dl k).map (idAtP g.events)).length:=(Zi _).symm
   rw [e5,e4]
   simp only [method_specs_simp,seval,encGr]
end
end Go.Proofs.YtlgeggpcnbbjdaaGreat
end
section
namespace Go.Proofs.YtlgeggpcnbbjdaaGreat
open Go.Pm
open Go.Gm (Ev Gr)
def rowEv (q : Nat) (e : Ev) : List V:=[.int .i64 e.id,.int .i64 e.room,.int .i64 e.author,.int .i64 e.kind,.int .i64 e.key,.int .i64 e.n,.str e.text,.ar q 0 e.prev.length,.int .i64 e.time]
def rowsEv : Nat → List Ev → List (List V)
 | _,[]=>[]
 | q,e :: l=>rowEv q e :: rowsEv (q + 1) l
def obI (e : Ev) : Ob:=.arr true 1 (e.prev.map encI)
def obE (l : List Ev) : List Ob:=.arr true 9 (rowsEv 1 l) :: l.map obI
def obEb (b : Nat) (l : List Ev) : List Ob:=.arr true 9 (rowsEv (b + 1) l) :: l.map obI
def mInts : Int → Nat → List Int
 | _,0=>[]
 | k,n + 1=>k :: mInts (k + 1) n
def mEv (k : Int) (e : Ev) : Ev:=⟨k,k + 1,k + 2,k + 3,k + 4,k + 5,mText (k + 6),mInts (k + 7) e.prev.length,k + 7 + e.prev.length⟩
def wM : List Ev → Int
 | []=>0
 | e :: l=>8 + e.prev.length + wM l
def mEvs : Int → List Ev → List Ev
 | _,[]=>[]
 | k,e :: l=>mEv k e :: mEvs (k + 8 + e.prev.length) l
def mixE (k : Int) (l : List Ev) (i : Nat) : List Ev:=(mEvs k l).take i ++ l.drop i
section
variable {P : Program} [Is P]
def rowsL (xs : List Ev) (k : Nat) : List (List V):=rowsEv 1 (xs.take k) ++ ZI (xs.length - k) zEv
def obG (g : Gr) : List Ob:=obE g.events ++ obEb (g.events.length + 1) g.parked
def grV (b : Nat) (g : Gr) : List V:=[.int .i64 g.room,.ar b 0 g.events.length,.ar (b + (g.events.length + 1)) 0 g.parked.length]
def mGr (k : Int) (g : Gr) : Gr:=⟨g.room,mEvs k g.events,mEvs (k + wM g.events) g.parked⟩
end
@[method_specs_simp] theorem encGr_take (g : Gr) : Yr 3 (encGr g) = encGr g:=nr rfl
@[method_specs_simp] theorem encGr_three (g : Gr) : (3 ≤ (encGr g).length) = True:=eq_true (Zg 3)
@[method_specs_simp] theorem encEv_take (e : Ev) : Yr 9 (encEv e) = encEv e:=nr rfl
@[method_specs_simp] theorem encEv_nine (e : Ev) : (9 ≤ (encEv e).length) = True:=eq_true (Zg 9)
theorem VLe.zEv : VLes zEv (encEv zE):=VLes.same (VLes.same (VLes.same (VLes.same (VLes.same (VLes.same (VLes.same (VLes.cons (VLe.nil 1) (VLes.same VLes.nil))))))))
theorem Con.weakR {P : Program} {f : FuncId} {xs : List V} {r r' : V} (h : Con P f xs r) (hl : VLe r r') (hp : Ref (fun _=>False) r') : Con P f xs r':=⟨h.ok,hp,fun w Zo us hz hu=>(h.c w Zo us hz hu).mono fun e w' ⟨v,β,e1,e2,e3,e4,e5⟩=>⟨v,β,e1,e2,e3,hl _ _ e4,e5⟩⟩
section
variable {P : Program} [Is P]
theorem n_cloneI (xs : List Int) (hx : xs.length * 8 ≤ 2 ^ 47) : NCon P 125 [.sl 1 (xs.map encI)] (.ar 0 0 xs.length) [.arr true 1 (xs.map encI)]:=by
 refine LCon.new (LCon.of (n:=8) (rs:=[.tmp 2]) (Is.fn Tryz.func125) rfl (Is.call Tryz.call125) Tryz.results125 Tryz.ntmps125 ?_) (pure1 (pure_ints _ _))
 simp only [method_specs_simp,seval]
 refine nilY.eql (fun h=>?_) ?_
 ·rw [List.map_eq_nil_iff] at h
  subst h
  simp only [method_specs_simp,seval]
  exact LResY.nil (by decide)
 ·simp only [method_specs_simp,seval]
  refine ⟨by omega,by omega,?_⟩
  refine LResY.mk [1] ?_
  simp only [mvcgen_simp,method_specs_simp,seval]
theorem c_l02Copy (e : Ev) (he : EvOK e) : Con P 170 [.agg (encEv e)] (.agg (encEv e)):=by
 have he2:=he.2
 refine Con.of (n:=9) (rs:=[.cell 2 49]) (Is.fn Tryz.func170) rfl (Is.call Tryz.call170) Tryz.results170 Tryz.ntmps170 (encEv_ref1 _ e) ?_
 simp only [method_specs_simp,seval]
 simp only [method_specs_simp,seval,encEv]
 exact ⟨by omega,by omega⟩
theorem c_l03Event (g : Gr) (id : Int) (hg : GrOK g) : Con P 146 [.agg (encGr g),.int .i64 id] (.agg (encEv ((atE g.events id).getD zE))):=by
 have hg1:=hg.1.1
 cases hh : Gm.hasId g.events id with
 | false =>
  rw [atE_none hh]
  refine Con.weakR (r:=.agg zEv) ?_ (VLe.agg VLe.zEv) (encEv_ref1 _ zE)
  have ha : atI g.events id = -1:=by unfold atI; rw [hh]; rfl
  refine Con.of (n:=19) (rs:=[.cell 4 49]) (Is.fn Tryz.func146) rfl (Is.call Tryz.call146) Tryz.results146 Tryz.ntmps146 (by simp only [zEv,method_specs_simp]) ?_
  simp only [method_specs_simp,seval,encGr]
  refine clY.con (c_l03At g.events id (by omega)) (by simp only [method_specs_simp,encGr]) ?_
  simp only [method_specs_simp,seval,encGr,ha,zEv]
 | true =>
  obtain ⟨e,h1,h2⟩:=Gm.fid_get hh
  have ha : atI g.events id = ((Gm.fidE g.events id : Nat) : Int):=by unfold atI; rw [hh]; rfl
  have hn : decide (((Gm.fidE g.events id : Nat) : Int) < 0) = false:=decide_eq_false (by omega)
  have hlt:=Gm.fid_lt hh
  rw [← fid_at hh,h1]
  refine Con.of (n:=19) (rs:=[.cell 4 49]) (Is.fn Tryz.func146) rfl (Is.call Tryz.call146) Tryz.results146 Tryz.ntmps146 (encEv_ref1 _ e) ?_
  simp only [method_specs_simp,seval,encGr]
  refine clY.con (c_l03At g.events id (by omega)) (by simp only [method_specs_simp,encGr]) ?_
  simp only [method_specs_simp,seval,encGr,ha,hn]
  simp only [method_specs_simp,seval,encGr,h1]
  refine ⟨by omega,by omega,?_⟩
  refine clY.con (c_l02Copy e (hg.1.2 e (Zn h1))) (by simp only [method_specs_simp,encGr]) ?_
  simp only [method_specs_simp,seval,encGr,encEv,Yf]
end
structure Past (G : List Ob) (N : Nat) : Prop where
 len : G.length = N
 g0 : ∀ L : List Ob,(G ++ L)[N]? = L[0]?
 g : ∀ (L : List Ob) (k : Nat),(G ++ L)[N + k]? = L[k]?
 b0 : ∀ L : List Ob,boxAt (G ++ L) N = boxAt L 0
 b : ∀ (L : List Ob) (k : Nat),boxAt (G ++ L) (N + k) = boxAt L k
 v0 : ∀ L : List Ob,boxLv (G ++ L) N = boxLv L 0
 v : ∀ (L : List Ob) (k : Nat),boxLv (G ++ L) (N + k) = boxLv L k
 a0 : ∀ L : List Ob,arrAt (G ++ L) N = arrAt L 0
 a : ∀ (L : List Ob) (k : Nat),arrAt (G ++ L) (N + k) = arrAt L k
 w0 : ∀ L : List Ob,arrLv (G ++ L) N = arrLv L 0
 w : ∀ (L : List Ob) (k : Nat),arrLv (G ++ L) (N + k) = arrLv L k
 s0 : ∀ (L : List Ob) (o : Ob),(G ++ L).set N o = G ++ L.set 0 o
 s : ∀ (L : List Ob) (k : Nat) (o : Ob),(G ++ L).set (N + k) o = G ++ L.set k o
def obGb (b : Nat) (g : Gr) : List Ob:=obEb b g.events ++ obEb (b + (g.events.length + 1)) g.parked
def LiesG (m : List Ob) (b : Nat) (g : Gr) : Prop:=∀ i ob,(obGb b g)[i]? = some ob → m[b + i]? = some ob
end Go.Proofs.YtlgeggpcnbbjdaaGreat
end
section
section
namespace Go.Pm
open Go.RowKit Go.Sort
theorem grow_of {w w' : World} (h : Grow w w') : ∃ q os,w' = Go.Sort.grow (w.drewN q) os:=by
 refine ⟨w'.drawn - w.drawn,w'.heap.extract w.heap.size w'.heap.size,?_⟩
 have h1:=h.os; have h2:=h.tape; have h3:=h.output; have h4:=h.size; have h5:=h.block; have h6:=h.drawn
 have hh : w'.heap = w.heap ++ w'.heap.extract w.heap.size w'.heap.size:=by
  apply Array.ext_getElem?
  intro i
  rw [Array.getElem?_append]
  split
  ·rename_i hi
   exact h5 i hi
  ·rename_i hi
   rw [Array.getElem?_extract]
   split
   ·congr 1; omega
   ·rw [Array.getElem?_eq_none]; omega
 cases w' with
 | mk heap tape drawn os output =>
  simp only at h1 h2 h3 hh h6
  subst h1; subst h2; subst h3
  simp only [Go.Sort.grow,World.drewN]
  congr 1
  omega
theorem sorted_world {α : Type} [Inhabited α] {e1 : α → Value} {w : World} {b n : Nat} {D : Array α} {os : Array Obj} {us : Array Value} {e : TypeId} {fr : Nat × Nat} (hb : w.heap[b]? = some (.cells us e fr)) :
  (Go.Sort.grow (putRow e1 (Go.Sort.ahead w n) b 0 D) os).heap[b]? = some (.cells (putCells e1 0 D us) e fr) ∧ Frame (fun i=>i = b) w (Go.Sort.grow (putRow e1 (Go.Sort.ahead w n) b 0 D) os):=by
 have hlt:=(Ys.1 hb).1
 have hs : (putRow e1 (Go.Sort.ahead w n) b 0 D).heap.size = w.heap.size:=by rw [size_putRow]; rfl
 have hg : ∀ i,i < w.heap.size → (Go.Sort.grow (putRow e1 (Go.Sort.ahead w n) b 0 D) os).heap[i]? = (putRow e1 (Go.Sort.ahead w n) b 0 D).heap[i]?:=fun i hi=>by
  show (_ ++ os)[i]? = _
  rw [Array.getElem?_append_left (by rw [hs]; exact hi)]
 have hm : ∀ i,(putRow e1 (Go.Sort.ahead w n) b 0 D).heap[i]? = if b = i then (w.heap[i]?).map (onCells (putCells e1 0 D)) else w.heap[i]?:=fun i=>by
  show (w.heap.modify b _)[i]? = _
  rw [Array.getElem?_modify]
 refine ⟨?_,⟨rfl,rfl,rfl,?_,fun i hi hne=>?_,Nat.le_add_right _ _⟩⟩
 ·rw [hg b hlt,hm,if_pos rfl,hb]; rfl
 ·show w.heap.size ≤ (_ ++ os).size
  rw [Array.size_append,hs]; omega
 ·rw [hg i hi,hm,if_neg (fun h=>hne h.symm)]
theorem size_putCells {α : Type} [Inhabited α] (e1 : α → Value) (D : Array α) (us : Array Value) : (putCells e1 0 D us).size = us.size:=by simp [putCells]
theorem get_putCells {α : Type} [Inhabited α] (e1 : α → Value) (D : Array α) (us : Array Value) (j : Nat) (hj : j < D.size) (hu : D.size ≤ us.size) : (putCells e1 0 D us)[j]? = some (e1 D[j]!):=by
 have h2 : j < us.size:=by omega
 simp [putCells,hj,h2]
theorem live_arr {k : Nat} {xs : List (List V)} {l : Lc} {b : Nat} : liveAt [.arr true k xs] [l] b ↔ l.cap ≠ 0 ∧ b = l.b:=by
 constructor
 ·rintro ⟨o,ob,l',h1,h2,h3⟩
  cases o with
  | zero =>
   simp at h1 h2
   subst h1; subst h2
   simp only [Ob.blk] at h3
   split at h3
   ·cases h3
   ·rename_i hc; injection h3 with h3; exact ⟨hc,h3.symm⟩
  | succ o=>simp at h1
 ·rintro ⟨h1,rfl⟩
  exact ⟨0,_,l,rfl,rfl,by simp only [Ob.blk]; rw [if_neg h1]⟩
theorem sorted_mem {α : Type} [Inhabited α] {e1 : α → Value} {w : World} {Zo : Nat → Prop} {l : Lc} {k n : Nat} {xs ys : List (List V)} {D : Array α} {os : Array Obj} {us : Array Value} {e : TypeId} {fr : Nat × Nat} {vs : List Value}
  (M : Mem w Zo [.arr true k xs] [l]) (hb : w.heap[l.b]? = some (.cells us e fr)) (hus : us.size = l.cap * k) (hc : l.cap ≠ 0) (hlen : ys.length = xs.length) (hrow : ∀ y ∈ ys,y.length = k) (hD : D.size = xs.length * k)
  (hp : Refs (fun _=>False) ys.flatten) (hv : RVs (cx w (fun b=>Zo b ∨ liveAt [.arr true k xs] [l] b) [] []) ys.flatten vs) (hvs : ∀ j v,vs[j]? = some v → j < D.size ∧ e1 D[j]! = v) :
  Frame (liveAt [.arr true k xs] [l]) w (Go.Sort.grow (putRow e1 (Go.Sort.ahead w n) l.b 0 D) os) ∧ Mem (Go.Sort.grow (putRow e1 (Go.Sort.ahead w n) l.b 0 D) os) Zo [.arr true k ys] [l] ∧
   RVs (cx (Go.Sort.grow (putRow e1 (Go.Sort.ahead w n) l.b 0 D) os) Zo [.arr true k ys] [l]) (plc 0 [.arr true k xs]) (plv [.arr true k xs] [l]) ∧ ∀ b,liveAt [.arr true k ys] [l] b → liveAt [.arr true k xs] [l] b ∨ w.heap.size ≤ b:=by
 obtain ⟨h1,h2⟩:=sorted_world (e1:=e1) (n:=n) (D:=D) (os:=os) hb
 obtain ⟨k1,k2,k3,k4⟩:=M.ok 0 _ l rfl rfl
 rcases k4 with k4 | ⟨us0,e0,fr0,g1,g2,g3,g4,g5⟩
 ·exact absurd k4 hc
 have g1 : w.heap[l.b]? = some (.cells us0 e0 fr0):=g1
 rw [hb] at g1
 injection g1 with g1
 injection g1 with g1 g6 g7
 subst g1; subst g6; subst g7
 generalize hW : Go.Sort.grow (putRow e1 (Go.Sort.ahead w n) l.b 0 D) os = W at h1 h2
 have hF : Frame (liveAt [.arr true k xs] [l]) w W:=h2.mono fun i hi=>live_arr.2 ⟨hc,hi⟩
 have hcle : D.size ≤ us.size:=by rw [hD,hus]; exact Nat.mul_le_mul_right k k1
 have htr : Tr (cx w (fun b=>Zo b ∨ liveAt [.arr true k xs] [l] b) [] []) (cx W Zo [.arr true k ys] [l]) (fun o=>o) (fun _=>False):=by
  refine ⟨fun b hf=>⟨⟨Yg hf.1 hF.size,?_⟩,hF.block b hf.1 fun q=>hf.2 (.inl (.inr q))⟩,fun _ h=>h.elim⟩
  rintro (hz | hz)
  ·exact hf.2 (.inl (.inl hz))
  ·exact hf.2 (.inl (.inr (live_arr.2 (live_arr.1 hz))))
 have hv2 : RVs (cx W Zo [.arr true k ys] [l]) ys.flatten vs:=by
  have:=RVs.tr htr ys.flatten vs hp hv
  rwa [rens_id] at this
 refine ⟨hF,⟨rfl,?_,?_,?_,fun b hz=>Yg (M.zlt b hz) hF.size⟩,?_,fun b hb=>.inl (live_arr.2 (live_arr.1 hb))⟩
 ·intro o ob l' a1 a2
  cases o with
  | zero =>
   simp at a1 a2
   subst a1; subst a2
   refine ⟨by rw [hlen]; exact k1,k2,k3,.inr ⟨_,_,_,h1,by rw [size_putCells]; exact g2,by rw [size_putCells]; exact g3,?_,.inl rfl⟩⟩
   refine RR.of hrow hv2 fun j u hj=>?_
   show W.cell? ⟨l.b,0 + j,none⟩ = some u
   rw [cell_at h1,Yt]
   obtain ⟨q1,q2⟩:=hvs j u hj
   rw [get_putCells e1 D us j q1 hcle,q2]
  | succ o=>simp at a1
 ·intro o o' ob ob' l1 l2 b a1 a2 a3 a4 a5 a6
  cases o with
  | zero =>
   cases o' with
   | zero=>rfl
   | succ o'=>simp at a2
  | succ o=>simp at a1
 ·exact fun b hb hz=>M.out b (live_arr.2 (live_arr.1 hb)) hz
 ·refine ⟨_,_,rfl,?_,⟨_,_,rfl,?_,rfl⟩⟩
  ·exact ⟨by rw [hlen]; omega,_,rfl,fun _=>rfl⟩
  ·rfl
section
variable {P : Program} {f c : FuncId}
structure El {β : Type} (encB : β → List V) (l : List β) (c0 : Cx) where
 b : β
 row : List Value
 mem : b ∈ l
 rv : RVs c0 (encB b) row
theorem sort_get {β : Type} {encB : β → List V} {l : List β} {c0 : Cx} [Inhabited (El encB l c0)] {k : Nat} (henc : ∀ b,(encB b).length = k) (d : Array (El encB l c0)) (hk : 0 < k) :
  RVs c0 ((d.toList.map fun p=>encB p.b).flatten) (d.toList.map (·.row)).flatten ∧ ∀ j v,((d.toList.map (·.row)).flatten)[j]? = some v → j < (flatK (fun p : El encB l c0=>p.row) k d).size ∧ id (flatK (fun p : El encB l c0=>p.row) k d)[j]! = v:=by
 constructor
 ·generalize d.toList = L
  induction L with
  | nil=>rfl
  | cons p L ih =>
   simp only [Zp,Yh]
   exact p.rv.append ih
 ·intro j v hj
  have hrl : ∀ p : El encB l c0,p.row.length = k:=fun p=>by rw [p.rv.length,henc]
  have hlen : ((d.toList.map (·.row)).flatten).length = d.size * k:=by
   rw [← YF]
   generalize d.toList = L
   induction L with
   | nil=>simp
   | cons p L ih =>
    simp only [Zp,Yh,Zb,Zw,hrl,YG,YH,ih]
    omega
  have hjl:=(ZW.1 hj).1
  rw [hlen] at hjl
  refine ⟨by rw [size_flatK]; exact hjl,?_⟩
  show (flatK _ k d)[j]! = v
  rw [get_flatK _ k d j hjl]
  have key : ∀ (L : List (El encB l c0)) (j : Nat),j < L.length * k → ((L.map (·.row)).flatten)[j]? = some ((L.getD (j / k) default).row.getD (j % k) default):=by
   intro L
   induction L with
   | nil=>intro j h; simp at h
   | cons p L ih =>
    intro j h
    simp only [Zp,Yh]
    by_cases hlt : j < k
    ·rw [ZZ (by rw [hrl]; exact hlt),Nat.div_eq_of_lt hlt,Nat.mod_eq_of_lt hlt]
     simp only [List.getD_cons_zero]
     rw [ZE,Zc (by rw [hrl]; exact hlt)]; rfl
    ·rw [ZH (by rw [hrl]; omega),hrl]
     have h2 : j - k < L.length * k:=by simp only [Zw,YG,YH] at h; omega
     have h3 : j / k = (j - k) / k + 1:=by rw [Nat.div_eq_sub_div hk (by omega)]
     have h4 : j % k = (j - k) % k:=Nat.mod_eq_sub_mod (by omega)
     rw [ih _ h2,h3,h4,List.getD_cons_succ]
  have hdl : d.toList.length = d.size:=YF
  have:=key d.toList j (by rw [hdl]; exact hjl)
  rw [hj] at this
  injection this with this
  rw [this]
  have hjd : j / k < d.size:=(YY hk).2 hjl
  have e1 : d[j / k]! = d.toList.getD (j / k) default:=by
   rw [ZE,YZ,getElem!_def]
   cases d[j / k]? <;> rfl
  rw [e1]
  have : ∀ (r : List Value) (i : Nat),r[i]! = r.getD i default:=fun r i=>by
   rw [ZE,getElem!_def]
   cases r[i]? <;> rfl
  rw [this]
theorem refs_app {ok : Nat → Prop} : ∀ {xs ys : List V},Refs ok xs → Refs ok ys → Refs ok (xs ++ ys)
 | [],_,_,h=>h
 | x :: xs,_,h1,h2=>⟨h1.1,refs_app h1.2 h2⟩
theorem els {β : Type} {encB : β → List V} {l : List β} {c c0 : Cx} {b k : Nat} (hw : c.w = c0.w) (htr : ∀ x us,RVs c (encB x) us → RVs c0 (encB x) us) : ∀ (l1 : List β) (o : Nat),(∀ x ∈ l1,x ∈ l) → RR c k b o (l1.map encB) →
  ∃ L : List (El encB l c0),L.map (·.b) = l1 ∧ ∀ i p,L[i]? = some p → ∀ j u,p.row[j]? = some u → c0.w.cell? ⟨b,o + i * k + j,none⟩ = some u
 | [],o,_,_=>⟨[],rfl,fun i p h=>by simp at h⟩
 | x :: l1,o,hm,⟨h1,h2,h3⟩=>by
   obtain ⟨row,k1,k2,k3⟩:=h2.list
   obtain ⟨L,g1,g2⟩:=els hw htr l1 (o + k) (fun y hy=>hm y (ZO _ hy)) h3
   refine ⟨⟨x,row,hm x Zv,htr x row k1⟩ :: L,by rw [Zp,g1],fun i p hi j u hj=>?_⟩
   cases i with
   | zero =>
    simp at hi; subst hi
    rw [← hw]
    have:=k3 j u hj
    simpa using this
   | succ i =>
    have:=g2 i p (by simpa using hi) j u hj
    rw [YG,YH]
    rwa [show o + (i * k + k) + j = o + k + i * k + j by omega]
def KSort (P : Program) (f : FuncId) (k : Nat) : Prop:=∀ {α : Type} [Inhabited α] (enc : α → List Value) (hk : ∀ x,(enc x).length = k) (h1 : ∀ x,∀ v ∈ enc x,v.oneCell' = true) (cf : α → α → Int) (hO : SWO (Go.Proofs.ltOf cf)) (g : Nat) (cb : Array Value) (blk off cap : Nat) (d : Array α) (w : World)
  (eg : ∀ args w,(callFunc g args).run P w = .ok (.enter g args) w) (hcmp : Go.Proofs.CmpLays P g cb enc k cf blk off d.size w) (hH : HoldsK enc k w blk off d) (hblk : blk < w.heap.size) (hsz : d.size < 4611686018427387904),
  Calls P f #[.slice (some ⟨blk,off,none⟩) d.size cap,.func (.func g) #[] cb] w fun e w'=>e = .returned (.tuple #[]) ∧ ∃ d' n os,PermIn 0 d.size d d' ∧ SortedIn (Go.Proofs.ltOf cf) 0 d.size d' ∧ w' = Go.Proofs.sortWorldK enc k w blk off n d' os
def KSort0 (P : Program) (f : FuncId) : Prop:=∀ (p : Option Addr) (cap : Nat) (fv : Value) (w : World),Calls P f #[.slice p 0 cap,fv] w fun e w'=>e = .returned (.tuple #[]) ∧ w' = w
theorem arr_eq {α : Type} [Inhabited α] (d : Array α) (i : Nat) (h : i < d.size) : d[i]? = some d[i]!:=by
 rw [getElem!_pos d i h,Yi h]
theorem LCon.sortK {β : Type} {encB : β → List V} {k : Nat} (henc : ∀ b,(encB b).length = k) (hk : 0 < k) (hpure : ∀ b,Refs (fun _=>False) (encB b)) (hone : ∀ b,∀ z ∈ encB b,oneV [] z = true) {caps : List V} (hcaps : Refs (fun _=>False) caps) (cmpf : β → β → Int) {l l' : List β}
  (hc : ∀ x ∈ l,∀ y ∈ l,Con P c ([.agg (encB x),.agg (encB y)] ++ caps) (.int .i64 (cmpf x y))) (s1 : ∀ x ∈ l,¬ cmpf x x < 0) (s2 : ∀ x ∈ l,∀ y ∈ l,∀ z ∈ l,cmpf x y < 0 → cmpf y z < 0 → cmpf x z < 0) (s3 : ∀ x ∈ l,∀ y ∈ l,∀ z ∈ l,¬ cmpf x y < 0 → ¬ cmpf y z < 0 → ¬ cmpf x z < 0)
  (hu : ∀ l2 : List β,l2.Perm l → l2.Pairwise (fun x y=>¬ cmpf y x < 0) → l2 = l') (hlen : l.length < 4611686018427387904) (hb : bodyOK P f = true) (eg : ∀ args w,(callFunc c args).run P w = .ok (.enter c args) w) (KS : KSort P f k) (K0 : KSort0 P f) :
  LCon P f [.ar 0 0 l.length,.fn c [] caps] [.arr true k (l.map encB)] (.tup []) [.arr true k (l'.map encB)]:=by
 refine ⟨hb,?_⟩
 intro w Zo β us M hargs
 obtain ⟨lc,rfl⟩ : ∃ lc,β = [lc]:=by
  have:=M.len
  match β,this with
  | [lc],_=>exact ⟨lc,rfl⟩
 obtain ⟨v0,vs0,rfl,hv0,hr⟩:=hargs
 obtain ⟨v1,vs1,rfl,hv1,rfl⟩:=hr
 obtain ⟨hln,A,rfl,hA⟩ : 0 + l.length ≤ (l.map encB).length ∧ ∃ A,v0 = .slice A l.length (lc.cap - 0) ∧ (0 < lc.cap → A = some ⟨lc.b,0 * k,none⟩):=hv0
 obtain ⟨us0,cb,rfl,hf0,hcb⟩:=hv1
 have hf0 : us0.toList = []:=hf0
 obtain rfl : us0 = #[]:=by cases us0; simp_all
 by_cases hl0 : l = []
 ·subst hl0
  have e1 : l' = []:=(hu [] (List.Perm.refl _) List.Pairwise.nil).symm
  subst e1
  refine (K0 A (lc.cap - 0) _ w).mono ?_
  rintro e w' ⟨rfl,rfl⟩
  exact ⟨_,[lc],rfl,Frame.refl _ _,M,⟨_,_,rfl,⟨Zg _,_,rfl,fun _=>rfl⟩,⟨_,_,rfl,rfl,rfl⟩⟩,⟨#[],rfl,rfl⟩,fun b hb=>.inl hb⟩
 have hpos : 0 < l.length:=List.length_pos_iff.2 hl0
 obtain ⟨k1,k2,k3,k4⟩:=M.ok 0 _ lc rfl rfl
 rw [Zi] at k1
 have hcap : lc.cap ≠ 0:=by omega
 rcases k4 with k4 | ⟨us,e,fr,g1,g2,g3,g4,g5⟩
 ·exact absurd k4 hcap
 have g1 : w.heap[lc.b]? = some (.cells us e fr):=g1
 have hblk:=(Ys.1 g1).1
 obtain rfl:=hA (by omega)
 obtain ⟨c0,hc0⟩ : ∃ c0,c0 = cx w (fun b=>Zo b ∨ liveAt [.arr true k (l.map encB)] [lc] b) [] []:=⟨_,rfl⟩
 have hz0 : ∀ b,(cx w Zo [.arr true k (l.map encB)] [lc]).fz b → c0.fz b:=fun b hf=>by
  subst hc0
  refine ⟨hf.1,?_⟩
  rintro (hz | ⟨o,ob,l1,h1,_⟩)
  ·exact hf.2 hz
  ·simp at h1
 have htr : ∀ xs us,Refs (fun _=>False) xs → RVs (cx w Zo [.arr true k (l.map encB)] [lc]) xs us → RVs c0 xs us:=fun xs us hp h=>by
  have:=RVs.tr (c':=c0) (ρ:=fun o=>o) (ok:=fun _=>False) ⟨fun b hf=>⟨hz0 b hf,by subst hc0; rfl⟩,fun _ h=>h.elim⟩ xs us hp h
  rwa [rens_id] at this
 obtain ⟨L,hL1,hL2⟩:=els (c0:=c0) (l:=l) (by subst hc0; rfl) (fun x us h=>htr _ us (hpure x) h) l 0 (fun x hx=>hx) g4
 have hLl : L.length = l.length:=by have:=congrArg List.length hL1; rwa [Zi] at this
 have hrl : ∀ p : El encB l c0,p.row.length = k:=fun p=>by rw [p.rv.length,henc]
 haveI : Inhabited (El encB l c0):=⟨L[0]'(by omega)⟩
 obtain ⟨d,hd⟩ : ∃ d : Array (El encB l c0),d = L.toArray:=⟨_,rfl⟩
 have hds : d.size = l.length:=by rw [hd]; simpa using hLl
 have hH : HoldsK (fun p : El encB l c0=>p.row) k w lc.b (0 * k) d:=by
  intro j hj
  have hj : j < d.size * k:=by rwa [size_flatK] at hj
  have hi : j / k < d.size:=(YY hk).2 hj
  have hm : j % k < k:=Nat.mod_lt _ hk
  obtain ⟨p,hp⟩ : ∃ p,d[j / k]? = some p:=⟨_,Yi hi⟩
  have hpe : d[j / k]! = p:=by have:=arr_eq d _ hi; rw [hp] at this; injection this with this; exact this.symm
  obtain ⟨u,hu2⟩ : ∃ u,p.row[j % k]? = some u:=⟨_,Zc (by rw [hrl]; exact hm)⟩
  have hcell:=hL2 (j / k) p (by rw [hd] at hp; simpa using hp) (j % k) u hu2
  have hjj : 0 + j / k * k + j % k = j:=by rw [Yt,Nat.mul_comm]; exact Nat.div_add_mod j k
  rw [hjj] at hcell
  have hcell : w.cell? ⟨lc.b,j,none⟩ = some u:=by subst hc0; exact hcell
  have hju : j < us.size:=by
   rw [cell_at g1] at hcell
   exact (Ys.1 hcell).1
  refine ⟨?_,?_⟩
  ·rw [Yu,Yt,hcell]
   show some u = some (flatK _ k d)[j]!
   rw [get_flatK _ k d j hj,hpe]
   congr 1
   rw [getElem!_def,hu2]
  ·rw [Yu,Yt]
   have:=g3 j (by omega)
   simp only [World.frozen?,g1]
   simp only [Bool.and_eq_false_iff,decide_eq_false_iff_not]
   omega
 have h1 : ∀ p : El encB l c0,∀ v ∈ p.row,v.oneCell' = true:=fun p v hv=>by
  have M0 : Mem w (fun b=>Zo b ∨ liveAt [.arr true k (l.map encB)] [lc] b) [] []:=⟨rfl,fun o ob l h=>by simp at h,fun o o' ob ob' l l' b h=>by simp at h,fun b ⟨o,ob,l,h,_⟩=>by simp at h,fun b hz=>hz.elim (M.zlt b) fun h=>M.live_lt h⟩
  have hrv:=p.rv
  subst hc0
  exact one_list M0 (Agree.refl _) (hone p.b) hrv v hv
 have hO : SWO (Go.Proofs.ltOf fun p q : El encB l c0=>cmpf p.b q.b):=by
  refine ⟨fun x=>?_,fun x y z h1 h2=>?_,fun x y z h1 h2=>?_⟩ <;> simp only [Go.Proofs.ltOf,decide_eq_true_eq,decide_eq_false_iff_not] at *
  ·exact s1 x.b x.mem
  ·exact s2 _ x.mem _ y.mem _ z.mem h1 h2
  ·exact s3 _ x.mem _ y.mem _ z.mem h1 h2
 have hcmp : Go.Proofs.CmpLays P c cb (fun p : El encB l c0=>p.row) k (fun p q=>cmpf p.b q.b) lc.b (0 * k) d.size w:=by
  intro m os dk hdk x y
  have hcon:=hc x.b x.mem y.b y.mem
  obtain ⟨_,hF⟩:=sorted_world (e1:=id) (n:=m) (D:=flatK (fun p : El encB l c0=>p.row) k dk) (os:=os) g1
  have hW : Go.Proofs.sortWorldK (fun p : El encB l c0=>p.row) k w lc.b (0 * k) m dk os = Go.Sort.grow (putRow id (Go.Sort.ahead w m) lc.b 0 (flatK (fun p : El encB l c0=>p.row) k dk)) os:=by unfold Go.Proofs.sortWorldK putRowK; rw [Yu]
  rw [hW]
  generalize Go.Sort.grow (putRow id (Go.Sort.ahead w m) lc.b 0 (flatK (fun p : El encB l c0=>p.row) k dk)) os = W at hF
  have htr2 : ∀ xs us,Refs (fun _=>False) xs → RVs c0 xs us → RVs (cx W (fun b=>Zo b ∨ liveAt [.arr true k (l.map encB)] [lc] b) [] []) xs us:=fun xs us hp h=>by
   have:=RVs.tr (c':=cx W (fun b=>Zo b ∨ liveAt [.arr true k (l.map encB)] [lc] b) [] []) (ρ:=fun o=>o) (ok:=fun _=>False) ⟨fun b hf=>by
    subst hc0
    refine ⟨⟨Yg hf.1 hF.size,hf.2⟩,hF.block b hf.1 fun hb=>hf.2 (.inl (.inr (live_arr.2 ⟨hcap,hb⟩)))⟩,fun _ h=>h.elim⟩ xs us hp h
   rwa [rens_id] at this
  have hcb2:=htr2 _ _ hcaps (htr _ _ hcaps hcb)
  have hx:=htr2 _ _ (hpure x.b) x.rv
  have hy:=htr2 _ _ (hpure y.b) y.rv
  have hz : ∀ b,(Zo b ∨ liveAt [.arr true k (l.map encB)] [lc] b) → b < W.heap.size:=fun b hz=>Yg (Or.elim hz (M.zlt b) fun h=>M.live_lt h) hF.size
  have h:=hcon.c W (fun b=>Zo b ∨ liveAt [.arr true k (l.map encB)] [lc] b) ([.agg x.row.toArray,.agg y.row.toArray] ++ cb.toList) hz ⟨_,_,rfl,⟨_,rfl,hx⟩,⟨_,_,rfl,⟨_,rfl,hy⟩,hcb2⟩⟩
  have harr : ([Value.agg x.row.toArray,Value.agg y.row.toArray] ++ cb.toList).toArray = #[.agg x.row.toArray,.agg y.row.toArray] ++ cb:=by simp
  rw [harr] at h
  refine h.mono ?_
  rintro e w' ⟨v,β,rfl,G,_,hv,_⟩
  have hv : v = .int .i64 (cmpf x.b y.b):=hv
  subst hv
  obtain ⟨q,os',hw⟩:=grow_of G
  exact ⟨rfl,q,os',hw⟩
 have hcall:=KS (fun p : El encB l c0=>p.row) hrl h1 (fun p q=>cmpf p.b q.b) hO c cb lc.b (0 * k) (lc.cap - 0) d w eg hcmp hH hblk (by rw [hds]; exact hlen)
 rw [hds] at hcall
 refine hcall.mono ?_
 rintro e w' ⟨rfl,d',n,os,hp,hs,rfl⟩
 obtain ⟨p1,_,p3⟩:=hp
 have q1 : d'.extract 0 l.length = d':=by rw [← hds,← p1]; simp
 have q2 : d.extract 0 l.length = d:=by rw [← hds]; simp
 rw [q1,q2] at p3
 have e1 : d'.toList.map (·.b) = l':=by
  refine hu _ ?_ ?_
  ·have:=p3.map (·.b)
   rwa [hd,List.toList_toArray,hL1] at this
  ·rw [List.pairwise_iff_getElem]
   intro i j hi hj hij
   have hi2 : i < d'.size:=by simpa using hi
   have hj2 : j < d'.size:=by simpa using hj
   have:=hs i j (Zj _) hij (by rw [← hds,← p1]; exact hj2)
   simp only [Go.Proofs.ltOf,decide_eq_false_iff_not] at this
   rw [getElem!_pos d' i hi2,getElem!_pos d' j hj2] at this
   simpa using this
 have hrows : d'.toList.map (fun p=>encB p.b) = l'.map encB:=by rw [← e1,List.map_map]; rfl
 obtain ⟨r1,r2⟩:=sort_get henc d' hk
 rw [hrows] at r1
 obtain ⟨VV,hVV⟩ : ∃ VV,VV = (d'.toList.map (·.row)).flatten:=⟨_,rfl⟩
 rw [← hVV] at r1 r2
 rw [hc0] at r1
 have hW : Go.Proofs.sortWorldK (fun p : El encB l c0=>p.row) k w lc.b (0 * k) n d' os = Go.Sort.grow (putRow id (Go.Sort.ahead w n) lc.b 0 (flatK (fun p : El encB l c0=>p.row) k d')) os:=by unfold Go.Proofs.sortWorldK putRowK; rw [Yu]
 rw [hW]
 have hll : l'.length = l.length:=by rw [← e1,Zi,YF,p1,hds]
 have hpp : ∀ L : List β,Refs (fun _=>False) (L.map encB).flatten:=fun L=>by
  induction L with
  | nil=>trivial
  | cons b L ih=>rw [Zp,Yh]; exact refs_app (hpure b) ih
 obtain ⟨m1,m2,m3,m4⟩:=sorted_mem (n:=n) (os:=os) (e1:=id) (ys:=l'.map encB) (D:=flatK (fun p : El encB l c0=>p.row) k d') M g1 g2 hcap (by rw [Zi,Zi,hll]) (fun y hy=>by obtain ⟨b,_,rfl⟩:=ZQ.1 hy; exact henc b) (by rw [size_flatK,p1,hds,Zi]) (hpp l') r1 r2
 exact ⟨_,[lc],rfl,m1,m2,m3,⟨#[],rfl,rfl⟩,m4⟩
def KSortI (P : Program) (f : FuncId) : Prop:=∀ (blk off cap : Nat) (zs : List Int) (w : World),Holds (Value.int .i64) w blk off zs.toArray → blk < w.heap.size → zs.length < 4611686018427387904 →
  Calls P f #[.slice (some ⟨blk,off,none⟩) zs.length cap] w fun e w'=>e = .returned (.tuple #[]) ∧ ∃ n os,w' = Go.Sort.grow (putRow (Value.int .i64) (Go.Sort.ahead w n) blk off (zs.mergeSort fun x y=>decide (x ≤ y)).toArray) os
def KSortI0 (P : Program) (f : FuncId) : Prop:=∀ (p : Option Addr) (cap : Nat) (w : World),Calls P f #[.slice p 0 cap] w fun e w'=>e = .returned (.tuple #[]) ∧ w' = w
end
end Go.Pm
end
end
section
namespace Go.Proofs.YtlgeggpcnbbjdaaGreat
open Go.Pm
def laySF115_ren : Go.Shelf.Ren:=⟨fun | 6=>115 | 15=>161 | 14=>160 | 28=>181 | 29=>182 | 20=>173 | 21=>174 | 22=>175 | 23=>176 | 24=>177 | 25=>178 | 26=>179 | 27=>180 | 46=>185 | 47=>186 | 48=>187 | 49=>188 | 50=>189 | 57=>191 | n=>n,fun | 22=>39 | 24=>49 | 25=>185 | 3=>3 | 39=>195 | 0=>0 | 53=>229 | 55=>231 | 4=>4 | 46=>223 | 45=>222 | 50=>135 | 5=>5 | 9=>9 | 66=>232 | 70=>236 | 76=>239 | 77=>240 | n=>n,fun | n=>n⟩
theorem laySF115 : Go.Proofs.SlLaysF0.n6 Tryz.prog laySF115_ren:={
 mixed:=by kernel_rfl
 f6:=⟨Tryz.f115.name,by decide,Tryz.func115.trans (congrArg some (by kernel_rfl))⟩
 f14:=⟨Tryz.f160.name,by decide,Tryz.func160.trans (congrArg some (by kernel_rfl))⟩
 f15:=Tryz.func161.trans (congrArg some (by kernel_rfl))
 f20:=⟨Tryz.f173.name,by decide,Tryz.func173.trans (congrArg some (by kernel_rfl))⟩
 f21:=⟨Tryz.f174.name,by decide,Tryz.func174.trans (congrArg some (by kernel_rfl))⟩
 f22:=⟨Tryz.f175.name,by decide,Tryz.func175.trans (congrArg some (by kernel_rfl))⟩
 f23:=⟨Tryz.f176.name,by decide,Tryz.func176.trans (congrArg some (by kernel_rfl))⟩
 f24:=⟨Tryz.f177.name,by decide,Tryz.func177.trans (congrArg some (by kernel_rfl))⟩
 f25:=⟨Tryz.f178.name,by decide,Tryz.func178.trans (congrArg some (by kernel_rfl))⟩
 f26:=⟨Tryz.f179.name,by decide,Tryz.func179.trans (congrArg some (by kernel_rfl))⟩
 f27:=⟨Tryz.f180.name,by decide,Tryz.func180.trans (congrArg some (by kernel_rfl))⟩
 f28:=Tryz.func181.trans (congrArg some (by kernel_rfl))
 f29:=Tryz.func182.trans (congrArg some (by kernel_rfl))
 f46:=⟨Tryz.f185.name,by decide,Tryz.func185.trans (congrArg some (by kernel_rfl))⟩
 f47:=Tryz.func186.trans (congrArg some (by kernel_rfl))
 f48:=Tryz.func187.trans (congrArg some (by kernel_rfl))
 f49:=⟨Tryz.f188.name,by decide,Tryz.func188.trans (congrArg some (by kernel_rfl))⟩
 f50:=⟨Tryz.f189.name,by decide,Tryz.func189.trans (congrArg some (by kernel_rfl))⟩
 f57:=⟨Tryz.f191.name,by decide,Tryz.func191.trans (congrArg some (by kernel_rfl))⟩
 t0:=Tryz.underlying0
 a0:=Tryz.isAgg0
 z0:=Tryz.sizeOf0
 v0:=Tryz.zeroValue0
 t3:=Tryz.underlying3
 a3:=Tryz.isAgg3
 z3:=Tryz.sizeOf3
 v3:=Tryz.zeroValue3
 t4:=Tryz.underlying4
 a4:=Tryz.isAgg4
 z4:=Tryz.sizeOf4
 v4:=Tryz.zeroValue4
 t5:=Tryz.underlying5
 a5:=Tryz.isAgg5
 z5:=Tryz.sizeOf5
 v5:=Tryz.zeroValue5
 t9:=Tryz.underlying9
 a9:=Tryz.isAgg9
 z9:=Tryz.sizeOf9
 v9:=Tryz.zeroValue9
 t22:=Tryz.underlying39
 a22:=Tryz.isAgg39
 z22:=Tryz.sizeOf39
 v22:=Tryz.zeroValue39
 t25:=Tryz.underlying185
 a25:=Tryz.isAgg185
 z25:=Tryz.sizeOf185
 v25:=Tryz.zeroValue185
 t39:=Tryz.underlying195
 a39:=Tryz.isAgg195
 z39:=Tryz.sizeOf195
 v39:=Tryz.zeroValue195
 t45:=Tryz.underlying222
 a45:=Tryz.isAgg222
 z45:=Tryz.sizeOf222
 v45:=Tryz.zeroValue222
 t46:=Tryz.underlying223
 a46:=Tryz.isAgg223
 z46:=Tryz.sizeOf223
 v46:=Tryz.zeroValue223
 t50:=Tryz.underlying135
 a50:=Tryz.isAgg135
 z50:=Tryz.sizeOf135
 v50:=Tryz.zeroValue135
 t53:=Tryz.underlying229
 a53:=Tryz.isAgg229
 z53:=Tryz.sizeOf229
 v53:=Tryz.zeroValue229
 t55:=Tryz.underlying231
 a55:=Tryz.isAgg231
 z55:=Tryz.sizeOf231
 v55:=Tryz.zeroValue231
 t66:=Tryz.underlying232
 a66:=Tryz.isAgg232
 z66:=Tryz.sizeOf232
 v66:=Tryz.zeroValue232
 t70:=Tryz.underlying236
 a70:=Tryz.isAgg236
 z70:=Tryz.sizeOf236
 v70:=Tryz.zeroValue236
 t76:=Tryz.underlying239
 a76:=Tryz.isAgg239
 z76:=Tryz.sizeOf239
 v76:=Tryz.zeroValue239
 t77:=Tryz.underlying240
 a77:=Tryz.isAgg240
 z77:=Tryz.sizeOf240
 v77:=Tryz.zeroValue240 }
section
variable {P : Program} [Is P]
theorem k_sortEvent0 : KSort0 P 115:=Is.on (fun P=>KSort0 P 115) fun p cap fv w=>AnyF.slices_SortFunc_none laySF115 p cap fv w
theorem k_sortEvent : KSort P 115 9:=Is.on (fun P=>KSort P 115 9) fun enc hk h1 cf hO g cb blk off cap d w eg hcmp hH hblk hsz=>AnyQ.slices_SortFunc laySF115 9 Tryz.isAgg49 Tryz.sizeOf49 enc hk h1 cf hO g cb blk off cap d w eg hcmp hH hblk hsz
end
def lessI (l : List Int) (n : Int) : Nat:=(l.takeWhile fun y=>decide (y < n)).length
def setI (l : List Int) (n : Int) : List Int:=if l[lessI l n]? = some n then l else l.take (lessI l n) ++ n :: l.drop (lessI l n)
theorem lessI_le (l : List Int) (n : Int) : lessI l n ≤ l.length:=Gm.takeWhile_length_le _ l
theorem setI_len (l : List Int) (n : Int) : (setI l n).length ≤ l.length + 1:=by
 unfold setI
 split
 ·omega
 ·have:=lessI_le l n
  simp only [Zb,Zw,Zq,ZJ]; omega
theorem lessI_at {l : List Int} {n : Int} {i : Nat} (hr : lessI l n = i + ((l.drop i).takeWhile fun y=>decide (y < n)).length) (hi : i < l.length) {y : Int} (hy : l[i]? = some y) :
  (y < n ∧ lessI l n = (i + 1) + ((l.drop (i + 1)).takeWhile fun y=>decide (y < n)).length) ∨ (¬ y < n ∧ lessI l n = i):=by
 have hd : l.drop i = y :: l.drop (i + 1):=by
  rw [Wa hi]
  rw [Zc hi] at hy
  injection hy with hy
  rw [hy]
 rw [hd,Wb] at hr
 by_cases h : y < n
 ·rw [if_pos (by simpa using h),Zw] at hr
  exact .inl ⟨h,by omega⟩
 ·rw [if_neg (by simpa using h),ZL] at hr
  exact .inr ⟨h,by omega⟩
section
variable {P : Program} [Is P]
theorem c_l03Set (l : List Int) (n : Int) (hl : l.length * 8 < 2 ^ 46) : Con P 138 [.sl 1 (l.map encI),.int .i64 n] (.sl 1 ((setI l n).map encI)):=by
 refine Con.of (n:=48) (rs:=[.tmp 4]) (Is.fn Tryz.func138) rfl (Is.call Tryz.call138) Tryz.results138 Tryz.ntmps138 (by simp only [method_specs_simp]) ?_
 simp only [method_specs_simp,seval,← ZD,← Zx,Zt]
 refine SW.while (A:=Nat) (fun i=>⟨pad 48 [.sl 1 (l.map encI),.int .i64 n,.junk,.junk,.junk,.int .i64 i],[],[]⟩) (fun i=>l.length - i) (fun i=>i ≤ l.length ∧ lessI l n = i + ((l.drop i).takeWhile fun y=>decide (y < n)).length) 0 [] ⟨Zj _,by simp [lessI]⟩ ?_ ?_
 ·simp only [mvcgen_simp,method_specs_simp,seval,← ZD,← Zx,Zt]
 ·rintro i ⟨hi,hr⟩
  have w1 : IntKind.i64.wrap ((i : Int) + 1) = ((i + 1 : Nat) : Int):=wadd1 i (by omega)
  have hlt : (l.take i).length = i:=by rw [Zq]; omega
  have hld : (l.drop i).length = l.length - i:=ZJ ..
  have hall : (l.take i).map encI ++ [[V.int .i64 n]] ++ (l.drop i).map encI = (l.take i ++ n :: l.drop i).map encI:=by rw [Zs,Zp,Zh]; rfl
  have hlen : i + 1 + (l.length - i) = (l.take i ++ n :: l.drop i).length:=by rw [Zb,Zw,hlt,hld]; omega
  refine CW.sound ?_
  simp only [method_specs_simp,seval,← ZD,← Zx,Zt]
  refine gB_split (fun h=>?_) (fun h=>?_)
  ·simp only [decide_eq_true_eq,Za] at h
   obtain ⟨y,hy⟩ : ∃ y,l[i]? = some y:=⟨_,Zc h⟩
   simp only [method_specs_simp,seval,← ZD,← Zx,Zt,hy,encI]
   refine ⟨by omega,by omega,?_⟩
   rcases lessI_at hr h hy with ⟨h1,h2⟩ | ⟨h1,h2⟩
   ·have e1 : decide (y < n) = true:=by simpa using h1
    simp only [method_specs_simp,seval,← ZD,← Zx,Zt,e1]
    refine Again.mk (i + 1) [] ⟨h,h2⟩ (Zl h (Zk _)) ?_
    simp only [mvcgen_simp,method_specs_simp,seval,← ZD,← Zx,Zt,w1]
   ·have e1 : decide (y < n) = false:=by simpa using h1
    have e2 : decide ((i : Int) < (l.length : Int)) = true:=by simpa using h
    simp only [method_specs_simp,seval,← ZD,← Zx,Zt,e1,e2,hy,encI]
    refine ⟨by omega,by omega,?_⟩
    refine gB_split (fun h3=>?_) (fun h3=>?_)
    ·have h4 : setI l n = l:=by unfold setI; rw [h2,hy,eq_of_beq h3,if_pos rfl]
     rw [h4]
    ·have h5 : y ≠ n:=fun e=>by subst e; simp at h3
     have h4 : setI l n = l.take i ++ n :: l.drop i:=by unfold setI; rw [h2,hy,if_neg (fun e=>h5 (Option.some.inj e))]
     simp only [method_specs_simp,seval,← ZD,← Zx,Zt,hlt,hld]
     repeat (refine ⟨by omega,?_⟩)
     rw [hall,h4,hlen,Zm (by rw [Zi]; exact Zg _)]
     simp only [method_specs_simp,seval,← ZD,← Zx,Zt]
  ·have e2 : decide ((i : Int) < (l.length : Int)) = false:=by simpa using h
   have hi2 : i = l.length:=by simp only [decide_eq_false_iff_not,Zd,Za] at h; omega
   have h2 : lessI l n = i:=by rw [hr,hi2,YI]; simp
   have h4 : setI l n = l.take i ++ n :: l.drop i:=by unfold setI; rw [h2,hi2,Wc (Zg _),if_neg (by simp)]
   simp only [method_specs_simp,seval,← ZD,← Zx,Zt,e2,hlt,hld]
   repeat (refine ⟨by omega,?_⟩)
   rw [hall,h4,hlen,Zm (by rw [Zi]; exact Zg _)]
   simp only [method_specs_simp,seval,← ZD,← Zx,Zt]
end
def ddF : Option Int → List Int → List Int
 | _,[]=>[]
 | p,x :: l=>if p = some x then ddF p l else x :: ddF (some x) l
def dd (l : List Int) : List Int:=ddF none l
def sqz (W l : List Int) : List Int:=W ++ l.drop W.length
def padZ (l : List Int) (n : Nat) : List Int:=l ++ ZI (n - l.length) 0
section
variable {P : Program} [Is P]
def srtI (l : List Int) : List Int:=l.mergeSort fun x y=>decide (x ≤ y)
end
def LtI (x y : Int) : Prop:=x < y
def Rise (l : List Int) : Prop:=l.Pairwise LtI
theorem Rise.nodup {l : List Int} (h : Rise l) : l.Nodup:=List.Pairwise.imp (fun {x y} (h : x < y) e=>by subst e; omega) h
theorem lessI_split (l : List Int) (n : Int) (h : Rise l) : (∀ x ∈ l.take (lessI l n),x < n) ∧ ∀ x ∈ l.drop (lessI l n),n ≤ x:=by
 induction l with
 | nil=>simp [lessI]
 | cons y l ih =>
  have h1:=Yz.1 h
  obtain ⟨i1,i2⟩:=ih h1.2
  unfold lessI at i1 i2 ⊢
  rw [Wb]
  by_cases hy : y < n
  ·rw [if_pos (by simpa using hy)]
   simp only [Zw,List.take_succ_cons,List.drop_succ_cons,Zz]
   exact ⟨fun x hx=>hx.elim (fun e=>e ▸ hy) (i1 x),i2⟩
  ·rw [if_neg (by simpa using hy)]
   simp only [ZL,YC,List.drop_zero,Zz,List.not_mem_nil,false_implies,implies_true,true_and]
   intro x hx
   rcases hx with rfl | hx
   ·omega
   ·have : y < x:=h1.1 x hx
    omega
theorem setI_mem {l : List Int} {n : Int} (h : Rise l) {x : Int} : x ∈ setI l n ↔ x = n ∨ x ∈ l:=by
 unfold setI
 split
 ·rename_i hn
  exact ⟨.inr,fun hx=>hx.elim (fun e=>e ▸ Zn hn) id⟩
 ·conv=>rhs; rw [← Ye (lessI l n) l]
  simp only [ZG,Zz]
  constructor
  ·rintro (h | rfl | h)
   ·exact .inr (.inl h)
   ·exact .inl rfl
   ·exact .inr (.inr h)
  ·rintro (rfl | h | h)
   ·exact .inr (.inl rfl)
   ·exact .inl h
   ·exact .inr (.inr h)
theorem setI_rise {l : List Int} {n : Int} (h : Rise l) : Rise (setI l n):=by
 have hs:=lessI_split l n h
 unfold setI
 split
 ·exact h
 ·rename_i hne
  have h1 : Rise (l.take (lessI l n)):=h.sublist (ZM _ _)
  have h2 : Rise (l.drop (lessI l n)):=h.sublist (ZU _ _)
  have h3 : ∀ x ∈ l.drop (lessI l n),n < x:=by
   intro x hx
   have hle:=hs.2 x hx
   rcases Int.lt_or_eq_of_le hle with h4 | h4
   ·exact h4
   ·exfalso
    subst h4
    obtain ⟨j,hj⟩:=YJ.1 hx
    cases j with
    | zero=>rw [List.getElem?_drop] at hj; exact hne (by simpa using hj)
    | succ j =>
     obtain ⟨y,hy⟩ : ∃ y,(l.drop (lessI l n))[0]? = some y:=by
      cases hd : l.drop (lessI l n) with
      | nil=>rw [hd] at hj; simp at hj
      | cons y t=>exact ⟨y,rfl⟩
     have hlt : y < n:=Gm.pw_get h2 (Nat.zero_lt_succ j) hy hj
     have:=hs.2 y (Zn hy)
     omega
  refine ZN.2 ⟨h1,Yz.2 ⟨h3,h2⟩,fun x hx y hy=>?_⟩
  have hx1:=hs.1 x hx
  rcases Zz.1 hy with rfl | hy
  ·exact hx1
  ·have:=hs.2 y hy
   show x < y
   omega
end Go.Proofs.YtlgeggpcnbbjdaaGreat
end
section
namespace Go.Proofs.YtlgeggpcnbbjdaaGreat
open Go.Pm
open Go.Gm (Ev Gr)
@[mvcgen_simp,method_specs_simp] theorem mpI_refs1 {β : Type} {ok : Nat → Prop} {kd : IntKind} {f : β → V} : ∀ {l : List (Int × β)},Refs ok (mpI kd f l).1 = True
 | []=>rfl
 | p :: l=>by
   have ih:=mpI_refs1 (ok:=ok) (kd:=kd) (f:=f) (l:=l)
   simp only [mpI,Zp] at ih ⊢
   exact propext ⟨fun _=>trivial,fun _=>⟨trivial,by rw [ih]; trivial⟩⟩
@[mvcgen_simp,method_specs_simp] theorem mpI_rens1 {β : Type} {ρ : Nat → Nat} {kd : IntKind} {f : β → V} : ∀ {l : List (Int × β)},rens ρ (mpI kd f l).1 = (mpI kd f l).1
 | []=>rfl
 | p :: l=>by
   have ih:=mpI_rens1 (ρ:=ρ) (kd:=kd) (f:=f) (l:=l)
   simp only [mpI,Zp,rens,V.ren] at ih ⊢
   rw [ih]
theorem mpI_refs2 {β : Type} {ok : Nat → Prop} {kd : IntKind} {f : β → V} (hf : ∀ b,Ref ok (f b)) : ∀ {l : List (Int × β)},Refs ok (mpI kd f l).2 = True
 | []=>rfl
 | p :: l=>by
   have ih:=mpI_refs2 (kd:=kd) hf (l:=l)
   simp only [mpI,Zp] at ih ⊢
   exact propext ⟨fun _=>trivial,fun _=>⟨hf _,by rw [ih]; trivial⟩⟩
theorem mpI_rens2 {β : Type} {ρ : Nat → Nat} {kd : IntKind} {f : β → V} (hf : ∀ b,(f b).ren ρ = f b) : ∀ {l : List (Int × β)},rens ρ (mpI kd f l).2 = (mpI kd f l).2
 | []=>rfl
 | p :: l=>by
   have ih:=mpI_rens2 (ρ:=ρ) (kd:=kd) hf (l:=l)
   simp only [mpI,Zp,rens] at ih ⊢
   rw [ih,hf]
@[mvcgen_simp,method_specs_simp] theorem mpB_refs {ok : Nat → Prop} {kd : IntKind} {l : List (Int × Bool)} : Refs ok (mpI kd V.bool l).2 = True:=mpI_refs2 (f:=V.bool) fun _=>trivial
@[mvcgen_simp,method_specs_simp] theorem mpB_rens {ρ : Nat → Nat} {kd : IntKind} {l : List (Int × Bool)} : rens ρ (mpI kd V.bool l).2 = (mpI kd V.bool l).2:=mpI_rens2 fun _=>rfl
@[mvcgen_simp,method_specs_simp] theorem mpN_refs {ok : Nat → Prop} {kd k : IntKind} {l : List (Int × Int)} : Refs ok (mpI kd (V.int k) l).2 = True:=mpI_refs2 (f:=V.int k) fun _=>trivial
@[mvcgen_simp,method_specs_simp] theorem mpN_rens {ρ : Nat → Nat} {kd k : IntKind} {l : List (Int × Int)} : rens ρ (mpI kd (V.int k) l).2 = (mpI kd (V.int k) l).2:=mpI_rens2 fun _=>rfl
structure GG (g : Gr) : Prop where
 ok : GrOK g
 rt : Gm.grRight g = true
theorem GG.ain {g : Gr} (h : GG g) : ∀ e ∈ g.events,Gm.allIn g.events e = true:=fun e he=>by
 have hr:=h.rt
 simp only [Gm.grRight,ZR,ZS] at hr
 exact (hr.2.2.2.1 e he).1
theorem GG.pos {g : Gr} (h : GG g) : ∀ x ∈ Gm.depthsE g.events,1 ≤ x:=fun x hx=>by
 have h0:=(Gm.depths_ok g.events).nn x hx
 have hr:=h.rt
 simp only [Gm.grRight,ZR,ZS] at hr
 have:=hr.2.2.2.2.2
 rw [Gm.allPos,ZS] at this
 have:=this x hx
 have hne : x ≠ 0:=by simpa using this
 omega
theorem GG.row {g : Gr} (h : GG g) : (g.events.length : Int) ≤ 60 ∧ Gm.rowFrom g.room none g.events = true:=by
 have hr:=h.rt
 simp only [Gm.grRight,Gm.rowR,ZR,decide_eq_true_eq] at hr
 exact hr.2.1
theorem GG.n {g : Gr} (h : GG g) : g.events.length ≤ 60:=by have:=h.row.1; omega
theorem GG.srt {g : Gr} (h : GG g) : Gm.Srt g.events:=(Gm.rowFrom_srt h.row.2).1
theorem GG.ev {g : Gr} (h : GG g) : ∀ e ∈ g.events,Gm.evRight e = true:=fun e he=>((Gm.rowFrom_srt h.row.2).2 e he).1
theorem GG.four {g : Gr} (h : GG g) : ∀ e ∈ g.events,e.prev.length ≤ 4:=fun e he=>by
 have:=h.ev e he
 simp only [Gm.evRight,Gm.prevR,ZR,decide_eq_true_eq] at this
 omega
theorem GG.hx {g : Gr} (h : GG g) : g.events.length * 96 ≤ 2 ^ 47:=h.ok.1.1
def prevsE (evs : List Ev) (id : Int) : List Int:=((atE evs id).getD zE).prev
def aheadGo (evs : List Ev) (a : Int) : Nat → List Int → List Int → Bool
 | 0,_,_=>false
 | _ + 1,_,[]=>false
 | n + 1,met,id :: todo=>if id == a then true else if met.contains id then aheadGo evs a n met todo else aheadGo evs a n (met ++ [id]) (todo ++ prevsE evs id)
theorem aheadGo_nil (evs : List Ev) (a : Int) (n : Nat) (met : List Int) : aheadGo evs a n met [] = false:=by cases n <;> rfl
def unm (evs : List Ev) (met : List Int) : Nat:=evs.countP fun e=>!met.contains e.id
theorem unm_put {met : List Int} {id : Int} (hm : met.contains id = false) : ∀ {evs : List Ev},Gm.hasId evs id = true → unm evs (met ++ [id]) + 1 ≤ unm evs met
 | [],h=>by simp [Gm.hasId] at h
 | e :: evs,h=>by
   have hle : unm evs (met ++ [id]) ≤ unm evs met:=by
    refine List.countP_mono_left fun x _ hx=>?_
    simp only [Yb,YK,ZG,decide_eq_false_iff_not,not_or] at hx ⊢
    exact hx.1
   have he2 : ∀ m : List Int,unm (e :: evs) m = unm evs m + if m.contains e.id then 0 else 1:=fun m=>by
    unfold unm
    rw [List.countP_cons]
    cases m.contains e.id <;> rfl
   rw [he2,he2]
   by_cases hi : e.id = id
   ·subst hi
    rw [hm]
    have : (met ++ [e.id]).contains e.id = true:=by simp
    rw [this]
    simp only [if_true,Yj,if_false]; omega
   ·have h2 : Gm.hasId evs id = true:=by
     simp only [Gm.hasId,List.any_cons,Yv,beq_iff_eq] at h ⊢
     exact h.resolve_left hi
    have ih:=unm_put hm h2
    have : (met ++ [id]).contains e.id = met.contains e.id:=by simp [YK,hi]
    rw [this]; omega
def metL (met : List Int) : List (Int × Bool):=met.map fun k=>(k,true)
theorem look_met : ∀ (met : List Int) (k : Int),lookD (metL met) k false = met.contains k
 | [],k=>rfl
 | x :: met,k=>by
   have ih:=look_met met k
   simp only [metL,lookD,Zp,YL,YM] at ih ⊢
   cases hb : k == x with
   | true=>rfl
   | false=>simpa using ih
theorem put_met : ∀ (met : List Int) (k : Int),met.contains k = false → putK (metL met) k true = metL (met ++ [k])
 | [],k,_=>rfl
 | x :: met,k,h=>by
   rw [YM,Bool.or_eq_false_iff] at h
   have ih:=put_met met k h.2
   simp only [metL,putK,Zp,Zu] at ih ⊢
   rw [h.1]
   simp only [Yj,if_false,ih]
theorem prevs_four {g : Gr} (h : GG g) (id : Int) : (prevsE g.events id).length ≤ 4:=by
 unfold prevsE
 cases hh : atE g.events id with
 | none=>exact Zj _
 | some e=>exact h.four e (Yw hh)
theorem prevs_in {g : Gr} (h : GG g) (id : Int) : ∀ p ∈ prevsE g.events id,Gm.hasId g.events p = true:=fun p hp=>by
 unfold prevsE at hp
 cases hh : atE g.events id with
 | none=>rw [hh] at hp; cases hp
 | some e =>
  rw [hh] at hp
  have:=h.ain e (Yw hh)
  simp only [Gm.allIn,ZS] at this
  exact this p hp
structure AhI (g : Gr) (a : Int) (R : Bool) (n : Nat) (met q : List Int) (i : Nat) : Prop where
 le : i ≤ q.length
 cap : q.length + 5 * unm g.events met ≤ 5 * g.events.length + 4
 pot : q.length + 5 * unm g.events met ≤ n + i
 all : ∀ p ∈ q,Gm.hasId g.events p = true
 go : aheadGo g.events a n met (q.drop i) = R
def aheadE (g : Gr) (a : Int) (e : Ev) : Bool:=aheadGo g.events a (5 * g.events.length + 4) [] e.prev
theorem AhI.start {g : Gr} (h : GG g) {a : Int} {e : Ev} (he : e ∈ g.events) : AhI g a (aheadE g a e) (5 * g.events.length + 4) [] e.prev 0:=by
 have h4:=h.four e he
 have hu : unm g.events [] ≤ g.events.length:=List.countP_le_length
 refine ⟨Zj _,by omega,by omega,fun p hp=>?_,rfl⟩
 have:=h.ain e he
 simp only [Gm.allIn,ZS] at this
 exact this p hp
theorem AhI.next {g : Gr} {a : Int} {R : Bool} {n i : Nat} {met q : List Int} (s : AhI g a R n met q i) (hi : i < q.length) : ∃ id k,q[i]? = some id ∧ n = k + 1 ∧ q.drop i = id :: q.drop (i + 1) ∧ Gm.hasId g.events id = true:=by
 have hq : q[i]? = some q[i]:=Zc hi
 have hp:=s.pot
 exact ⟨q[i],n - 1,hq,by omega,Wa hi,s.all _ (Zn hq)⟩
theorem AhI.skip {g : Gr} {a : Int} {R : Bool} {k i : Nat} {met q : List Int} {id : Int} (s : AhI g a R (k + 1) met q i) (hi : i < q.length) (hd : q.drop i = id :: q.drop (i + 1)) (ha : (id == a) = false) (hm : met.contains id = true) : AhI g a R k met q (i + 1):=by
 obtain ⟨s1,s2,s3,s4,s5⟩:=s
 rw [hd,aheadGo,ha,hm] at s5
 exact ⟨hi,s2,by omega,s4,s5⟩
theorem AhI.mark {g : Gr} (h : GG g) {a : Int} {R : Bool} {k i : Nat} {met q : List Int} {id : Int} (s : AhI g a R (k + 1) met q i) (hi : i < q.length) (hd : q.drop i = id :: q.drop (i + 1)) (hin : Gm.hasId g.events id = true) (ha : (id == a) = false) (hm : met.contains id = false) : AhI g a R k (met ++ [id]) (q ++ prevsE g.events id) (i + 1):=by
 obtain ⟨s1,s2,s3,s4,s5⟩:=s
 have hu:=unm_put hm hin
 have h4:=prevs_four h id
 rw [hd,aheadGo,ha,hm] at s5
 refine ⟨?_,?_,?_,?_,?_⟩
 ·rw [Zb]; omega
 ·rw [Zb]; omega
 ·rw [Zb]; omega
 ·intro p hp
  rcases ZG.1 hp with hp | hp
  ·exact s4 p hp
  ·exact prevs_in h id p hp
 ·show aheadGo g.events a k (met ++ [id]) ((q ++ prevsE g.events id).drop (i + 1)) = R
  rw [Wd (by omega)]
  exact s5
section
variable {P : Program} [Is P]
theorem c_ahead (g : Gr) (a : Int) (e : Ev) (h : GG g) (he : e ∈ g.events) : Con P 95 [.agg (encGr g),.int .i64 a,.agg (encEv e)] (.bool (aheadE g a e)):=by
 have h60:=h.n
 have hx:=h.hx
 have h4:=h.four e he
 refine Con.of (n:=46) (rs:=[.tmp 6]) (Is.fn Tryz.func95) rfl (Is.call Tryz.call95) Tryz.results95 Tryz.ntmps95 trivial ?_
 simp only [method_specs_simp,seval,encGr,encEv]
 refine clY.new (n_cloneI e.prev (by omega)) (by simp only [method_specs_simp,encGr,encEv]) ?_
 simp only [method_specs_simp,seval,encGr,encEv]
 refine SW.while (A:=Nat × List Int × List Int × Nat) (fun s=>⟨pad 46 [.junk,.int .i64 a,.junk,.ptr 0 0,.junk,.junk,.bool false,.map 1,.ar 2 0 s.2.2.1.length,.int .i64 s.2.2.2],[.box true (encGr g),.mp true (mpI .i64 V.bool (metL s.2.1)).1 (mpI .i64 V.bool (metL s.2.1)).2,.arr true 1 (s.2.2.1.map encI)],[]⟩) (fun s=>s.1) (fun s=>AhI g a (aheadE g a e) s.1 s.2.1 s.2.2.1 s.2.2.2) (5 * g.events.length + 4,[],e.prev,0) [0,2,3] (AhI.start h he) ?_ ?_
 ·simp only [mvcgen_simp,method_specs_simp,seval,encGr,encEv,metL,mpI]
 ·rintro ⟨n,met,q,i⟩ s
  have s1:=s.le
  have s2:=s.cap
  simp only at s s1 s2
  have w1 : IntKind.i64.wrap ((i : Int) + 1) = ((i + 1 : Nat) : Int):=wadd1 i (by omega)
  refine CW.sound ?_
  simp only [method_specs_simp,seval,encGr,encEv]
  refine gB_split (fun hlt=>?_) (fun hlt=>?_)
  ·simp only [decide_eq_true_eq,Za] at hlt
   obtain ⟨id,k,hq,rfl,hd,hin⟩:=s.next hlt
   simp only [method_specs_simp,seval,encGr,encEv,hq,encI]
   refine ⟨by omega,by omega,?_⟩
   refine gB_split (fun ha=>?_) (fun ha=>?_)
   ·have:=s.go
    rw [hd,aheadGo,ha] at this
    exact this
   ·simp only [Zd] at ha
    refine lkY.ints V.bool (metL met) false rfl (by simp only [method_specs_simp]) ?_
    rw [look_met]
    simp only [method_specs_simp,seval,encGr,encEv]
    refine gB_split (fun hm=>?_) (fun hm=>?_)
    ·simp only [Yb] at hm
     refine muY.ints V.bool (metL met) true false rfl (by simp only [method_specs_simp]) ?_
     rw [put_met met id hm]
     simp only [method_specs_simp,seval,encGr,encEv]
     refine clY.con (c_at g id hx h.srt) (by simp only [method_specs_simp,encGr,encEv]) ?_
     simp only [method_specs_simp,seval,encGr,encEv]
     have h4q:=prevs_four h id
     have hap : q.map encI ++ (((atE g.events id).getD zE).prev).map encI = (q ++ prevsE g.events id).map encI:=by rw [Zs]; rfl
     have hln : q.length + ((atE g.events id).getD zE).prev.length = (q ++ prevsE g.events id).length:=by rw [Zb]; rfl
     unfold prevsE at h4q
     refine ⟨by omega,by omega,?_⟩
     refine Again.mk (k,met ++ [id],q ++ prevsE g.events id,i + 1) [0,1,4] (s.mark h hlt hd hin ha hm) (Zk _) ?_
     simp only [mvcgen_simp,method_specs_simp,seval,encGr,encEv,w1,hap,hln]
    ·simp only [Zd,We] at hm
     refine Again.mk (k,met,q,i + 1) [0,1,2] (s.skip hlt hd ha hm) (Zk _) ?_
     simp only [mvcgen_simp,method_specs_simp,seval,encGr,encEv,w1]
  ·have hi : i = q.length:=by simp only [decide_eq_false_iff_not,Zd,Za] at hlt; omega
   have:=s.go
   rw [hi,YI,aheadGo_nil] at this
   rw [this]
end
def encB (b : Bool) : List V:=[.bool b]
@[method_specs_simp] theorem encB_refs (ok : Nat → Prop) (xs : List Bool) : Refss ok (xs.map encB) = True:=eq_true (Refss_map fun a=>by simp [encB,Refs,Ref])
@[method_specs_simp] theorem encB_rens (ρ : Nat → Nat) (xs : List Bool) : renss ρ (xs.map encB) = xs.map encB:=renss_map fun a=>by simp [encB,Refs,Ref]
@[method_specs_simp] theorem set_encB (z : List Bool) (q : Nat) (y : Bool) : (z.map encB).set q (.bool y :: ((z.map encB).getD q []).drop 1) = (z.set q y).map encB:=by
 rw [List.map_set]
 by_cases h : q < z.length
 ·have : (z.map encB).getD q [] = encB z[q]:=by rw [ZE,Zy,Zc h]; rfl
  rw [this]; rfl
 ·rw [Wf (by rw [Zi]; omega),Wf (by rw [Zi]; omega)]
def mkB (evs : List Ev) (met : List Int) : List Bool:=evs.map fun e=>met.contains e.id
theorem mkB_len (evs : List Ev) (met : List Int) : (mkB evs met).length = evs.length:=Zi _
theorem mkB_nil (evs : List Ev) : mkB evs [] = ZI evs.length false:=by
 induction evs with
 | nil=>rfl
 | cons e evs ih=>simp only [mkB,Zp,Zw,YN] at ih ⊢; rw [ih]; rfl
theorem mkB_get {evs : List Ev} {met : List Int} {id : Int} (h : Gm.hasId evs id = true) : (mkB evs met)[Gm.fidE evs id]? = some (met.contains id):=by
 obtain ⟨e,h1,rfl⟩:=Gm.fid_get h
 unfold mkB
 rw [Zy,h1]; rfl
theorem mkB_set {evs : List Ev} (hs : Gm.Srt evs) {met : List Int} {id : Int} (h : Gm.hasId evs id = true) : (mkB evs met).set (Gm.fidE evs id) true = mkB evs (met ++ [id]):=by
 obtain ⟨e,h1,rfl⟩:=Gm.fid_get h
 apply List.ext_getElem?
 intro i
 have hlt:=(ZW.1 h1).1
 unfold mkB
 by_cases hi : Gm.fidE evs e.id = i
 ·rw [hi] at h1 hlt ⊢
  rw [Yc (by rw [Zi]; exact hlt),Zy,h1]
  simp
 ·rw [ZT hi,Zy,Zy]
  cases hx : evs[i]? with
  | none=>rfl
  | some x =>
   have hne : x.id ≠ e.id:=by
    intro q
    rcases Nat.lt_or_gt_of_ne hi with hl | hl
    ·have : e.id < x.id:=Gm.pw_get hs hl h1 hx
     omega
    ·have : x.id < e.id:=Gm.pw_get hs hl hx h1
     omega
   simp [YK,hne]
theorem AhI.mark0 {g : Gr} (h : GG g) {a : Int} {R : Bool} {k i : Nat} {met q : List Int} {id : Int} (s : AhI g a R (k + 1) met q i) (hi : i < q.length) (hd : q.drop i = id :: q.drop (i + 1)) (hin : Gm.hasId g.events id = true) (ha : (id == a) = false) (hm : met.contains id = false) : AhI g a R k (met ++ [id]) (q.drop (i + 1) ++ prevsE g.events id) 0:=by
 have s':=s.mark h hi hd hin ha hm
 obtain ⟨s1,s2,s3,s4,s5⟩:=s'
 rw [Zb] at s1 s2 s3
 have hl : (q.drop (i + 1)).length = q.length - (i + 1):=ZJ ..
 refine ⟨Zj _,?_,?_,fun p hp=>?_,?_⟩
 ·rw [Zb,hl]; omega
 ·rw [Zb,hl]; omega
 ·rcases ZG.1 hp with hp | hp
  ·exact s4 p (Wg _ (YO hp))
  ·exact s4 p (List.mem_append_right _ hp)
 ·rw [Wd (by omega)] at s5
  exact s5
theorem atI_neg' (l : List Ev) (id : Int) : decide (atI l id < 0) = !Gm.hasId l id:=by
 unfold atI
 cases Gm.hasId l id with
 | true=>simp only [if_true,Zd,decide_eq_false_iff_not]; omega
 | false=>rfl
theorem srt_id {l : List Ev} (hs : Gm.Srt l) {x y : Ev} (hx : x ∈ l) (hy : y ∈ l) (h : x.id = y.id) : x = y:=by
 obtain ⟨i,hi⟩:=YJ.1 hx
 obtain ⟨j,hj⟩:=YJ.1 hy
 rcases Wh i j with hl | rfl | hl
 ·have : x.id < y.id:=Gm.pw_get hs hl hi hj
  omega
 ·rw [hi] at hj; injection hj
 ·have : y.id < x.id:=Gm.pw_get hs hl hj hi
  omega
theorem has_mem {l : List Ev} {e : Ev} (he : e ∈ l) : Gm.hasId l e.id = true:=by
 unfold Gm.hasId
 exact List.any_eq_true.2 ⟨e,he,by simp⟩
theorem at_mem {l : List Ev} (hs : Gm.Srt l) {e : Ev} (he : e ∈ l) : atE l e.id = some e:=by
 obtain ⟨e',_,h2,h3,h4⟩:=at_pos hs (has_mem he)
 rw [h2,srt_id hs h4 he h3]
section
variable {P : Program} [Is P]
theorem c_l03Ahead (g : Gr) (a : Int) (e : Ev) (h : GG g) (he : e ∈ g.events) (ha : Gm.hasId g.events a = true) : Con P 105 [.agg (encGr g),.int .i64 a,.int .i64 e.id] (.bool (aheadE g a e)):=by
 have h60:=h.n
 have hx:=h.hx
 have h4:=h.four e he
 have hie:=has_mem he
 have hat : atE g.events e.id = some e:=at_mem h.srt he
 have hn1 : decide (atI g.events a < 0) = false:=by rw [atI_neg',ha]; rfl
 have hn2 : decide (atI g.events e.id < 0) = false:=by rw [atI_neg',hie]; rfl
 refine Con.of (n:=64) (rs:=[.tmp 6]) (Is.fn Tryz.func105) rfl (Is.call Tryz.call105) Tryz.results105 Tryz.ntmps105 trivial ?_
 simp only [method_specs_simp,seval,encGr,encEv]
 refine clY.con (c_l03At g.events a (by omega)) (by simp only [method_specs_simp,encGr,encEv]) ?_
 simp only [method_specs_simp,seval,encGr,encEv,hn1]
 refine clY.con (c_l03At g.events e.id (by omega)) (by simp only [method_specs_simp,encGr,encEv]) ?_
 simp only [method_specs_simp,seval,encGr,encEv,hn2]
 refine ⟨by omega,by omega,by omega,?_⟩
 refine clY.con (c_l03Event g e.id h.ok) (by simp only [method_specs_simp,encGr]) ?_
 rw [hat,Yf]
 simp only [method_specs_simp,seval,encGr,encEv]
 refine ⟨by omega,by omega,?_⟩
 have hz : ZI g.events.length [V.bool false] = (mkB g.events []).map encB:=by rw [mkB_nil,List.map_replicate]; rfl
 rw [hz]
 refine SW.while (A:=Nat × List Int × List Int × Nat) (fun s=>⟨pad 64 [.junk,.int .i64 a,.junk,.ptr 0 0,.junk,.junk,.bool false,.ar 1 0 g.events.length,.ar 2 s.2.2.2 (s.2.2.1.length - s.2.2.2)],[.box true (encGr g),.arr true 1 ((mkB g.events s.2.1).map encB),.arr true 1 (s.2.2.1.map encI)],[]⟩) (fun s=>s.1) (fun s=>AhI g a (aheadE g a e) s.1 s.2.1 s.2.2.1 s.2.2.2) (5 * g.events.length + 4,[],e.prev,0) [0,1,3] (AhI.start h he) ?_ ?_
 ·simp only [mvcgen_simp,method_specs_simp,seval,encGr,encEv,Nat.sub_zero]
 ·rintro ⟨n,met,q,i⟩ s
  have s1:=s.le
  have s2:=s.cap
  simp only at s s1 s2
  have hmk:=mkB_len g.events met
  refine CW.sound ?_
  simp only [method_specs_simp,seval,encGr,encEv,hmk]
  refine gB_split (fun hlt=>?_) (fun hlt=>?_)
  ·simp only [decide_eq_true_eq] at hlt
   have hlt : i < q.length:=by omega
   obtain ⟨id,k,hq,rfl,hd,hin⟩:=s.next hlt
   have e1 : q.length - i - 1 = q.length - (i + 1):=by omega
   simp only [method_specs_simp,seval,encGr,encEv,hq,encI]
   refine ⟨by omega,by omega,by omega,?_⟩
   refine clY.con (c_l03At g.events id (by omega)) (by simp only [method_specs_simp,encGr,encEv]) ?_
   simp only [method_specs_simp,seval,encGr,encEv]
   refine gB_split (fun hia=>?_) (fun hia=>?_)
   ·have:=s.go
    rw [hd,aheadGo,hia] at this
    exact this
   ·simp only [Zd] at hia
    have hai : atI g.events id = ((Gm.fidE g.events id : Nat) : Int):=by unfold atI; rw [hin]; rfl
    obtain ⟨e2,hf1,hf2⟩:=Gm.fid_get hin
    have hfl:=(ZW.1 hf1).1
    have hmg:=mkB_get (met:=met) hin
    obtain ⟨f,hf⟩ : ∃ f,f = Gm.fidE g.events id:=⟨_,rfl⟩
    rw [← hf] at hai hf1 hfl hmg
    rw [hai]
    simp only [method_specs_simp,seval,encGr,encEv,hmk,hmg,encB]
    refine ⟨by omega,by omega,?_⟩
    refine gB_split (fun hm=>?_) (fun hm=>?_)
    ·simp only [Yb] at hm
     have hpe : prevsE g.events id = e2.prev:=by unfold prevsE; rw [← hf2,at_mem h.srt (Zn hf1)]; rfl
     have hp4:=prevs_four h id
     rw [hpe] at hp4
     have hms:=mkB_set (met:=met) h.srt hin
     rw [← hf] at hms
     have m1:=s.mark h hlt hd hin hia hm
     have m2:=s.mark0 h hlt hd hin hia hm
     rw [hpe] at m1 m2
     have hq2 : q.length = i + 1 + (q.length - i - 1):=by omega
     refine ⟨by omega,by omega,by omega,by omega,by omega,?_⟩
     simp only [method_specs_simp,seval,encGr,encEv,hf1,hms]
     have hl1 : q.length - i - 1 + e2.prev.length = (q ++ e2.prev).length - (i + 1):=by rw [Zb]; omega
     have hl2 : q.length - i - 1 + e2.prev.length = (q.drop (i + 1) ++ e2.prev).length - 0:=by rw [Zb,ZJ]; omega
     have hc1 : q.map encI ++ e2.prev.map encI = (q ++ e2.prev).map encI:=(Zs ..).symm
     have hc2 : (q.map encI).drop (i + 1) ++ e2.prev.map encI = (q.drop (i + 1) ++ e2.prev).map encI:=by rw [Zs,Zx]
     refine ⟨hq2,by omega,by omega,?_,?_⟩
     ·refine Again.mk (k,met ++ [id],q ++ e2.prev,i + 1) [0,1,3] m1 (Zk _) ?_
      rw [hl1,hc1]
      simp only [mvcgen_simp,method_specs_simp,seval,encGr,encEv]
     ·refine Again.mk (k,met ++ [id],q.drop (i + 1) ++ e2.prev,0) [0,1,3] m2 (Zk _) ?_
      rw [hl2]
      first | rw [hc2] | rw [← Zx,← Zs]
      simp only [mvcgen_simp,method_specs_simp,seval,encGr,encEv]
    ·simp only [Zd,We] at hm
     refine Again.mk (k,met,q,i + 1) [0,1,2] (s.skip hlt hd hia hm) (Zk _) ?_
     simp only [mvcgen_simp,method_specs_simp,seval,encGr,encEv,e1]
  ·have hi : i = q.length:=by simp only [decide_eq_false_iff_not,Zd] at hlt; omega
   have:=s.go
   rw [hi,YI,aheadGo_nil] at this
   rw [this]
end
def entEq (v x : Ent) : Bool:=(v.kind == x.kind) && ((v.key == x.key) && (v.id == x.id))
theorem entEq_iff {v x : Ent} : entEq v x = true ↔ v = x:=by
 obtain ⟨a,b,c⟩:=v
 obtain ⟨a',b',c'⟩:=x
 simp [entEq]
def orL : List Int → Int
 | []=>0
 | x :: l=>if x ≠ 0 then x else orL l
def firstE (e : Ev) : Bool:=(e.kind == 1) || ((e.kind == 3) || ((e.kind == 5) || ((e.kind == 2) && (e.key != e.author))))
section
variable {P : Program} [Is P]
theorem c_indexN (xs : List Ent) (v : Ent) (hx : xs.length < 2 ^ 61) : Con P 159 [.sl 3 (xs.map encEnt),.agg (encEnt v)] (.int .i64 (idxP (entEq v) xs)):=by
 refine Con.of (n:=19) (rs:=[.tmp 4]) (Is.fn Tryz.func159) rfl (Is.call Tryz.call159) Tryz.results159 Tryz.ntmps159 trivial ?_
 simp only [method_specs_simp,seval]
 refine SW.while (A:=Nat) (fun k=>⟨pad 19 [.sl 3 (xs.map encEnt),.junk,.junk,.ptr 0 0,.int .i64 0,.junk,.sl 3 (xs.map encEnt),.int .i64 xs.length,.int .i64 k],[.box true (encEnt v)],[]⟩) (fun k=>xs.length - k)
  (fun k=>k ≤ xs.length ∧ idxP (entEq v) xs = if (xs.drop k).any (entEq v) then (k : Int) + (((xs.drop k).findIdx (entEq v) : Nat) : Int) else -1) 0 [0] ⟨Zj _,by simp [idxP]⟩ ?_ ?_
 ·simp only [mvcgen_simp,method_specs_simp,seval,encEnt]
 ·rintro k ⟨hk,hr⟩
  rw [hr]
  have w1 : IntKind.i64.wrap ((k : Int) + 1) = ((k + 1 : Nat) : Int):=wadd1 k (by omega)
  refine CW.sound ?_
  simp only [method_specs_simp,seval,encEnt]
  refine gB_split (fun h=>?_) (fun h=>?_)
  ·simp only [decide_eq_true_eq,Za] at h
   obtain ⟨x,hxk⟩ : ∃ x,xs[k]? = some x:=⟨_,Zc h⟩
   rw [drop_cons hxk]
   refine ⟨by kernel_rfl,by omega,by omega,?_⟩
   simp only [method_specs_simp,seval,hxk,encEnt]
   change gB (.bool (entEq v x)) true _ _
   refine gB_split (fun h1=>?_) (fun h1=>?_)
   ·rw [idxP_hit h1]
   ·simp only [Zd] at h1
    rw [idxP_miss h1]
    refine Again.mk (k + 1) [0] ⟨h,rfl⟩ (Zl h (Zk _)) ?_
    simp only [mvcgen_simp,method_specs_simp,seval,w1]
  ·simp only [decide_eq_false_iff_not,Zd,Za] at h
   rw [ZK (by omega)]
   simp
theorem c_containsN (xs : List Ent) (v : Ent) (hx : xs.length < 2 ^ 61) : Con P 114 [.sl 3 (xs.map encEnt),.agg (encEnt v)] (.bool (xs.any (entEq v))):=by
 refine Con.of (n:=9) (rs:=[.tmp 4]) (Is.fn Tryz.func114) rfl (Is.call Tryz.call114) Tryz.results114 Tryz.ntmps114 trivial ?_
 simp only [method_specs_simp,seval]
 simp only [method_specs_simp,seval,encEnt]
 refine clY.con (c_indexN xs v hx) (by simp only [method_specs_simp,encEnt]) ?_
 simp only [method_specs_simp,seval]
 exact idxP_ge _ _
theorem c_resolve1 (s : List Ent) (x : Ent) (hx : s.length < 2 ^ 61) : Con P 113 [.sl 3 (s.map encEnt),.fptr (encEnt x) 0] (.bool (!s.any (entEq x))):=by
 refine Con.of (n:=8) (rs:=[.tmp 3]) (Is.fn Tryz.func113) rfl (Is.call Tryz.call113) Tryz.results113 Tryz.ntmps113 trivial ?_
 simp only [method_specs_simp,seval]
 simp only [method_specs_simp,seval,encEnt]
 refine clY.con (c_containsN s x hx) (by simp only [method_specs_simp,encEnt]) ?_
 simp only [method_specs_simp,seval]
theorem c_or (xs : List Int) (hx : xs.length < 2 ^ 61) : Con P 118 [.sl 1 (xs.map encI)] (.int .i64 (orL xs)):=by
 refine Con.of (n:=18) (rs:=[.tmp 2]) (Is.fn Tryz.func118) rfl (Is.call Tryz.call118) Tryz.results118 Tryz.ntmps118 trivial ?_
 simp only [method_specs_simp,seval]
 refine SW.while (A:=Nat) (fun k=>⟨pad 18 [.sl 1 (xs.map encI),.junk,.int .i64 0,.int .i64 0,.junk,.junk,.sl 1 (xs.map encI),.int .i64 xs.length,.int .i64 k],[],[]⟩) (fun k=>xs.length - k) (fun k=>k ≤ xs.length ∧ orL (xs.drop k) = orL xs) 0 [] ⟨Zj _,by simp⟩ ?_ ?_
 ·simp only [mvcgen_simp,method_specs_simp,seval]
 ·rintro k ⟨hk,hr⟩
  have w1 : IntKind.i64.wrap ((k : Int) + 1) = ((k + 1 : Nat) : Int):=wadd1 k (by omega)
  refine CW.sound ?_
  simp only [method_specs_simp,seval]
  refine gB_split (fun h=>?_) (fun h=>?_)
  ·simp only [decide_eq_true_eq,Za] at h
   obtain ⟨x,hxk⟩ : ∃ x,xs[k]? = some x:=⟨_,Zc h⟩
   rw [drop_cons hxk,orL] at hr
   simp only [method_specs_simp,seval,hxk,encI]
   refine ⟨by omega,by omega,?_⟩
   refine gB_split (fun h1=>?_) (fun h1=>?_)
   ·rw [if_pos (by simpa using h1)] at hr
    rw [hr]
   ·rw [if_neg (by simpa using h1)] at hr
    refine Again.mk (k + 1) [] ⟨h,hr⟩ (Zl h (Zk _)) ?_
    simp only [mvcgen_simp,method_specs_simp,seval,w1]
  ·simp only [decide_eq_false_iff_not,Zd,Za] at h
   rw [ZK (by omega)] at hr
   rw [← hr]
   rfl
theorem c_isFirst (e : Ev) : Con P 117 [.agg (encEv e)] (.bool (firstE e)):=by
 refine Con.of (n:=28) (rs:=[.tmp 2]) (Is.fn Tryz.func117) rfl (Is.call Tryz.call117) Tryz.results117 Tryz.ntmps117 trivial ?_
 simp only [method_specs_simp,seval]
 simp only [method_specs_simp,seval,encEv]
 unfold firstE
 cases e.kind == 1 <;> cases e.kind == 3 <;> cases e.kind == 5 <;> cases e.kind == 2 <;> simp [method_specs_simp]
end
def fS : Option (List Ent) → V
 | none=>.nil
 | some s=>.sl 3 (s.map encEnt)
structure Hs where
 D : List (Int × Int)
 B : List (Int × Option (List Ent))
 A : List (Int × Option (List Ent))
 R : List (Int × Int)
def hRow (g : Gr) (x : Hs) : List V:=[.int .i64 g.room,.sl 9 (g.events.map encEv),.sl 9 (g.parked.map encEv),.fmap (mpI .i64 (V.int .i64) x.D).1 (mpI .i64 (V.int .i64) x.D).2,.junk,.junk,.junk]
def hV (g : Gr) (x : Hs) : V:=.fptr (hRow g x) 0
theorem fS_ref (ok : Nat → Prop) : ∀ b : Option (List Ent),Ref ok (fS b)
 | none=>trivial
 | some s=>of_eq_true (encEnt_refs ok s)
@[mvcgen_simp,method_specs_simp] theorem mpS_refs {ok : Nat → Prop} {kd : IntKind} {l : List (Int × Option (List Ent))} : Refs ok (mpI kd fS l).2 = True:=mpI_refs2 (f:=fS) fun b=>fS_ref ok b
@[mvcgen_simp,method_specs_simp] theorem mpS_rens {ρ : Nat → Nat} {kd : IntKind} {l : List (Int × Option (List Ent))} : rens ρ (mpI kd fS l).2 = (mpI kd fS l).2:=mpI_rens2 (f:=fS) fun b=>by
 cases b with
 | none=>rfl
 | some s=>simp only [fS,V.ren,encEnt_rens]
theorem hRow_ref (ok : Nat → Prop) (g : Gr) (x : Hs) : Refs ok (hRow g x):=by
 simp only [hRow,Refs,Ref,encEv_refs,mpI_refs1,mpN_refs,mpS_refs,and_self]
def cmpD (D : List (Int × Int)) (a b : Ev) : Int:=if firstE a != firstE b then (if firstE a then -1 else 1) else orL [cmpI (lookD D a.id 0) (lookD D b.id 0),cmpI a.time b.time,cmpI a.id b.id]
section
variable {P : Program} [Is P]
theorem c_resolve2 (g : Gr) (x : Hs) (a b : Ev) : Con P 116 [.agg (encEv a),.agg (encEv b),.fptr [hV g x] 0] (.int .i64 (cmpD x.D a b)):=by
 refine Con.of (n:=40) (rs:=[.tmp 5]) (Is.fn Tryz.func116) rfl (Is.call Tryz.call116) Tryz.results116 Tryz.ntmps116 trivial ?_
 simp only [method_specs_simp,seval,hV,hRow,encEv,Ze,Zf]
 refine ⟨by kernel_rfl,?_⟩
 refine clY.con (c_isFirst a) (by simp only [method_specs_simp,hV,hRow,encEv,Ze,Zf]) ?_
 simp only [method_specs_simp,seval,hV,hRow,encEv,Ze,Zf]
 refine clY.con (c_isFirst b) (by simp only [method_specs_simp,hV,hRow,encEv,Ze,Zf]) ?_
 simp only [method_specs_simp,seval,hV,hRow,encEv,Ze,Zf]
 unfold cmpD
 cases hfa : firstE a <;> cases hfb : firstE b
 case false.true =>
  simp only [method_specs_simp,seval,hV,hRow,encEv,Ze,Zf]
  refine clY.con (c_isFirst a) (by simp only [method_specs_simp,hV,hRow,encEv,Ze,Zf]) ?_
  simp only [method_specs_simp,seval,hV,hRow,encEv,Ze,Zf,hfa]
 case true.false =>
  simp only [method_specs_simp,seval,hV,hRow,encEv,Ze,Zf]
  refine clY.con (c_isFirst a) (by simp only [method_specs_simp,hV,hRow,encEv,Ze,Zf]) ?_
  simp only [method_specs_simp,seval,hV,hRow,encEv,Ze,Zf,hfa]
 all_goals
  simp only [method_specs_simp,seval,hV,hRow,encEv,Ze,Zf]
  refine ⟨by kernel_rfl,?_⟩
  refine lkY.ints (V.int .i64) x.D 0 rfl (by simp only [method_specs_simp]) ?_
  simp only [method_specs_simp,seval,hV,hRow,encEv,Ze,Zf]
  refine lkY.ints (V.int .i64) x.D 0 rfl (by simp only [method_specs_simp]) ?_
  simp only [method_specs_simp,seval,hV,hRow,encEv,Ze,Zf]
  refine clY.con (c172 (lookD x.D a.id 0) (lookD x.D b.id 0)) (by simp only [method_specs_simp,hV,hRow,encEv,Ze,Zf]) ?_
  simp only [method_specs_simp,seval,hV,hRow,encEv,Ze,Zf]
  refine clY.con (c172 a.time b.time) (by simp only [method_specs_simp,hV,hRow,encEv,Ze,Zf]) ?_
  simp only [method_specs_simp,seval,hV,hRow,encEv,Ze,Zf]
  refine clY.con (c172 a.id b.id) (by simp only [method_specs_simp,hV,hRow,encEv,Ze,Zf]) ?_
  simp only [method_specs_simp,seval,hV,hRow,encEv,Ze,Zf]
  have hor:=c_or (P:=P) [cmpI (lookD x.D a.id 0) (lookD x.D b.id 0),cmpI a.time b.time,cmpI a.id b.id] (by simp)
  simp only [Zp,Ya,encI] at hor
  refine clY.conF hor (by simp only [method_specs_simp]) (by simp only [Refs,Ref,Refss,and_self]) trivial ?_
  simp only [method_specs_simp,seval,hV,hRow,encEv,Ze,Zf]
end
def encSS (s : List Ent) : List V:=[.sl 3 (s.map encEnt)]
theorem encSS_ref1 (ok : Nat → Prop) (s : List Ent) : Refs ok (encSS s):=⟨of_eq_true (encEnt_refs ok s),trivial⟩
@[method_specs_simp] theorem encSS_refs (ok : Nat → Prop) (l : List (List Ent)) : Refss ok (l.map encSS) = True:=eq_true (Refss_map fun s=>encSS_ref1 ok s)
@[method_specs_simp] theorem encSS_rens (ρ : Nat → Nat) (l : List (List Ent)) : renss ρ (l.map encSS) = l.map encSS:=renss_map fun s=>encSS_ref1 _ s
section
variable {P : Program} [Is P]
theorem c_indexFSS (xs : List (List Ent)) (f : FuncId) (caps : List V) (p : List Ent → Bool) (hc : Refs (fun _=>False) caps) (hf : ∀ x ∈ xs,Con P f ([.sl 3 (x.map encEnt)] ++ caps) (.bool (p x))) (hx : xs.length < 2 ^ 62) : Con P 158 [.sl 1 (xs.map encSS),.fn f [] caps] (.int .i64 (idxP p xs)):=by
 refine Con.of (n:=19) (rs:=[.tmp 4]) (Is.fn Tryz.func158) rfl (Is.call Tryz.call158) Tryz.results158 Tryz.ntmps158 trivial ?_
 simp only [method_specs_simp,seval]
 refine SW.while (A:=Nat) (fun k=>⟨pad 19 [.sl 1 (xs.map encSS),.fn f [] caps,.junk,.junk,.int .i64 0,.junk,.sl 1 (xs.map encSS),.int .i64 xs.length,.int .i64 k],[],[]⟩) (fun k=>xs.length - k)
  (fun k=>k ≤ xs.length ∧ idxP p xs = if (xs.drop k).any p then (k : Int) + (((xs.drop k).findIdx p : Nat) : Int) else -1) 0 [] ⟨Zj _,by simp [idxP]⟩ ?_ ?_
 ·simp only [mvcgen_simp,method_specs_simp,seval,rens_pure _ hc]
  exact Refs.mono (fun _ h=>h.elim) _ hc
 ·rintro k ⟨hk,hr⟩
  rw [hr]
  refine CW.sound ?_
  simp only [method_specs_simp,seval]
  refine gB_split (fun h=>?_) (fun h=>?_)
  ·simp only [decide_eq_true_eq,Za] at h
   have hxk : xs[k]? = some xs[k]:=Zc h
   have hfk:=hf _ (YE h)
   generalize xs[k] = x at hxk hfk
   rw [drop_cons hxk]
   simp only [Zy,hxk,encSS,method_specs_simp,seval]
   refine ⟨by omega,by omega,?_⟩
   refine clY.conC hfk rfl ⟨of_eq_true (encEnt_refs _ x),hc⟩ ?_
   simp only [method_specs_simp,seval]
   refine gB_split (fun h1=>?_) (fun h1=>?_)
   ·rw [idxP_hit h1]
   ·rw [wrap_id (by omega) (by omega),idxP_miss h1]
    refine Again.mk (k + 1) [] ⟨h,rfl⟩ (Zl h (Zk _)) ?_
    simp only [mvcgen_simp,method_specs_simp,seval,rens_pure _ hc]
    exact Refs.mono (fun _ h=>h.elim) _ hc
  ·simp only [decide_eq_false_iff_not,Zd,Za] at h
   rw [ZK (by omega)]
   simp
theorem c_containsFSS (xs : List (List Ent)) (f : FuncId) (caps : List V) (p : List Ent → Bool) (hc : Refs (fun _=>False) caps) (hf : ∀ x ∈ xs,Con P f ([.sl 3 (x.map encEnt)] ++ caps) (.bool (p x))) (hx : xs.length < 2 ^ 62) : Con P 112 [.sl 1 (xs.map encSS),.fn f [] caps] (.bool (xs.any p)):=by
 refine Con.of (n:=9) (rs:=[.tmp 4]) (Is.fn Tryz.func112) rfl (Is.call Tryz.call112) Tryz.results112 Tryz.ntmps112 trivial ?_
 simp only [method_specs_simp,seval]
 refine clY.con (c_indexFSS xs f caps p hc hf hx) ⟨of_eq_true (encSS_refs _ xs),⟨trivial,hc⟩,trivial⟩ ?_
 simp only [method_specs_simp,seval]
 exact idxP_ge p xs
end
def missS (l : List (List Ent)) (x : Ent) : Bool:=l.any fun s=>!s.any (entEq x)
def com (l : List (List Ent)) : List Ent:=match l with
 | []=>[]
 | s :: _=>s.filter fun x=>!missS l x
def othI : List Int → List Ent → List Int
 | _,[]=>[]
 | met,x :: l=>if met.contains x.id then othI met l else x.id :: othI (met ++ [x.id]) l
theorem othI_snoc : ∀ (l : List Ent) (met : List Int) (x : Ent),othI met (l ++ [x]) = othI met l ++ (if (met ++ othI met l).contains x.id then [] else [x.id])
 | [],met,x=>by simp only [Zr,othI,ZF]
 | y :: l,met,x=>by
   rw [Zu]
   simp only [othI]
   split
   ·exact othI_snoc l met x
   ·rw [othI_snoc l _ x]
    simp
def evOf (g : Gr) (id : Int) : Ev:=(atE g.events id).getD zE
def entE (e : Ev) : Ent:=⟨e.kind,e.key,e.id⟩
def stepR (g : Gr) (out : List Ent) (e : Ev) : List Ent:=if allowedE g out e == 0 then putI out (entE e) else out
theorem sw_meet {P : Program} {x y : Code} {st : St} {Q : Exit → St → Prop} (stm : St) (h1 : Go.Pm.SW P x st (andThen (Again (fun _ : Bool=>stm) Bool.toNat (fun _=>True) true) Q)) (h2 : Go.Pm.SW P y stm Q) : Go.Pm.SW P (.seq x y) st Q:=by
 refine Go.Pm.SW.seq (Go.Pm.SW.mono h1 fun e st' h=>?_)
 cases e with
 | normal =>
  obtain ⟨a,ks,_,_,h⟩:=h
  exact Go.Pm.SW.wk ks h h2
 | exit id=>exact h
 | goto l=>exact h
 | ret=>exact h
 | panic ch=>exact h
 | outgrown=>exact h
theorem again_meet {stm st' : St} (ks : List Nat) (h : Wk ks st' stm) : Again (fun _ : Bool=>stm) Bool.toNat (fun _=>True) true st':=Again.mk false ks trivial (by decide) h
def metP (met : List Int) (k : Int) : List Int:=if met.contains k then met else met ++ [k]
theorem put_in : ∀ (met : List Int) (k : Int),met.contains k = true → putK (metL met) k true = metL met
 | [],k,h=>by simp at h
 | x :: met,k,h=>by
   rw [YM,Yv] at h
   simp only [metL,putK,Zp]
   cases hb : k == x with
   | true=>rfl
   | false =>
    have ih:=put_in met k (h.resolve_left (by rw [hb]; decide))
    simp only [metL] at ih
    simp only [Yj,if_false,ih]
theorem put_metP (met : List Int) (k : Int) : putK (metL met) k true = metL (metP met k):=by
 unfold metP
 cases h : met.contains k with
 | true=>rw [if_pos rfl]; exact put_in met k h
 | false=>rw [if_neg (by decide)]; exact put_met met k h
def idsM (l : List Ent) : List Int:=l.foldl (fun m x=>metP m x.id) []
theorem idsM_next {l : List Ent} {i : Nat} {y : Ent} (h : l[i]? = some y) : idsM (l.take (i + 1)) = metP (idsM (l.take i)) y.id:=by
 unfold idsM
 rw [ZA,h,ZC,Yk]; rfl
theorem convs_r8j {m : List Ob} {a b c d e f g h : V} {l : List V} : convs m (r8 a b c d e f g h l) = r8 (conv m a) (conv m b) (conv m c) (conv m d) (conv m e) (conv m f) (conv m g) (conv m h) (convs m l):=rfl
theorem conv_junkj {m : List Ob} : conv m .junk = .junk:=rfl
theorem othI_spec : ∀ (l : List Ent) (met : List Int),(othI met l).Nodup ∧ ∀ z ∈ othI met l,z ∉ met ∧ ∃ x ∈ l,x.id = z
 | [],met=>⟨List.nodup_nil,fun z hz=>by simp [othI] at hz⟩
 | y :: l,met=>by
   simp only [othI]
   split
   ·obtain ⟨h1,h2⟩:=othI_spec l met
    exact ⟨h1,fun z hz=>⟨(h2 z hz).1,by obtain ⟨x,hx,e⟩:=(h2 z hz).2; exact ⟨x,ZO _ hx,e⟩⟩⟩
   ·rename_i hc
    obtain ⟨h1,h2⟩:=othI_spec l (met ++ [y.id])
    refine ⟨YD.2 ⟨fun hm=>(h2 _ hm).1 (by simp),h1⟩,fun z hz=>?_⟩
    rcases Zz.1 hz with rfl | hz
    ·exact ⟨fun hm=>hc (Wi.2 hm),y,Zv,rfl⟩
    ·obtain ⟨a1,x,hx,e⟩:=h2 z hz
     exact ⟨fun hm=>a1 (Wg _ hm),x,ZO _ hx,e⟩
def othE (g : Gr) (l : List (List Ent)) : List Ev:=(othI (idsM (com l)) l.flatten).map (evOf g)
def fk (e : Ev) : Int:=if firstE e then 0 else 1
theorem cmpD_iff {D : List (Int × Int)} {a b : Ev} : cmpD D a b < 0 ↔ fk a < fk b ∨ (fk a = fk b ∧ (lookD D a.id 0 < lookD D b.id 0 ∨ (lookD D a.id 0 = lookD D b.id 0 ∧ (a.time < b.time ∨ (a.time = b.time ∧ a.id < b.id))))):=by
 have hc : ∀ p q : Int,(cmpI p q < 0 ↔ p < q) ∧ (cmpI p q = 0 ↔ p = q):=fun p q=>by
  unfold cmpI
  constructor <;> split <;> (try split) <;> omega
 have h1:=hc (lookD D a.id 0) (lookD D b.id 0)
 have h2:=hc a.time b.time
 have h3:=hc a.id b.id
 have key : ∀ p q r : Int,(orL [p,q,r] < 0 ↔ p < 0 ∨ (p = 0 ∧ (q < 0 ∨ (q = 0 ∧ r < 0)))):=by
  intro p q r
  simp only [orL,ne_eq,ite_not]
  split
  ·split
   ·split <;> omega
   ·omega
  ·omega
 have hk:=key (cmpI (lookD D a.id 0) (lookD D b.id 0)) (cmpI a.time b.time) (cmpI a.id b.id)
 rw [h1.1,h1.2,h2.1,h2.2,h3.1] at hk
 unfold cmpD fk
 cases firstE a <;> cases firstE b
 ·simpa using hk
 ·simp
 ·simp
 ·simpa using hk
theorem cmpD_irr (D : List (Int × Int)) (a : Ev) : ¬ cmpD D a a < 0:=by rw [cmpD_iff]; omega
theorem cmpD_tr {D : List (Int × Int)} {a b c : Ev} (h1 : cmpD D a b < 0) (h2 : cmpD D b c < 0) : cmpD D a c < 0:=by rw [cmpD_iff] at *; omega
theorem cmpD_nt {D : List (Int × Int)} {a b c : Ev} (h1 : ¬ cmpD D a b < 0) (h2 : ¬ cmpD D b c < 0) : ¬ cmpD D a c < 0:=by rw [cmpD_iff] at *; omega
theorem cmpD_tot {D : List (Int × Int)} {a b : Ev} (h : a.id ≠ b.id) (h1 : ¬ cmpD D b a < 0) : cmpD D a b < 0:=by rw [cmpD_iff] at *; omega
def ordR (D : List (Int × Int)) (L : List Ev) : List Ev:=L.mergeSort fun a b=>!decide (cmpD D b a < 0)
def resI (g : Gr) (D : List (Int × Int)) (l : List (List Ent)) : List Ent:=(ordR D (othE g l)).foldl (stepR g) (com l)
theorem ordR_uniq {D : List (Int × Int)} {L : List Ev} (hn : (L.map (·.id)).Nodup) {l2 : List Ev} (hp : l2.Perm L) (hs : l2.Pairwise fun a b=>¬ cmpD D b a < 0) : l2 = ordR D L:=by
 have key : ∀ l3 : List Ev,l3.Perm L → (l3.Pairwise fun a b=>¬ cmpD D b a < 0) → l3.Pairwise fun a b=>cmpD D a b < 0:=by
  intro l3 hp3 hs3
  have hn3 : (l3.map (·.id)).Nodup:=(hp3.map (·.id)).symm.nodup hn
  have h4 : l3.Pairwise fun a b=>a.id ≠ b.id:=Yn.1 hn3
  exact List.Pairwise.imp (fun {a b} h=>cmpD_tot h.2 h.1) (hs3.and h4)
 have hm : (ordR D L).Pairwise fun a b=>¬ cmpD D b a < 0:=by
  have:=List.pairwise_mergeSort (le:=fun a b=>!decide (cmpD D b a < 0)) (fun a b c h1 h2=>by simp only [Yb,decide_eq_false_iff_not] at *; exact cmpD_nt h2 h1) (fun a b=>by
   simp only [Yv,Yb,decide_eq_false_iff_not]
   by_cases h : cmpD D b a < 0
   ·exact .inr fun h2=>cmpD_irr D a (cmpD_tr h2 h)
   ·exact .inl h) L
  exact List.Pairwise.imp (fun {a b} h=>by simpa using h) this
 have hpm : (ordR D L).Perm L:=Yx _ _
 exact Gm.sorted_one (T:=fun a b=>cmpD D a b < 0) ⟨cmpD_irr D,fun a b c h1 h2=>cmpD_tr h1 h2⟩ (hp.trans hpm.symm) (key _ hp hs) (key _ hpm hm)
structure SL (g : Gr) (l : List (List Ent)) : Prop where
 n : l.length ≤ 60
 len : ∀ s ∈ l,s.length ≤ 400
 srt : ∀ s ∈ l,s.Pairwise ltE
 has : ∀ s ∈ l,∀ x ∈ s,entOf g x = true
theorem evOf_id {g : Gr} {x : Ent} (h : entOf g x = true) : (evOf g x.id).id = x.id:=by
 unfold entOf at h
 simp only [ZR] at h
 unfold evOf
 cases hh : atE g.events x.id with
 | none=>rw [hh] at h; exact absurd h.1 (by decide)
 | some e =>
  have:=List.find?_some hh
  simpa using this
theorem othE_nodup {g : Gr} {l : List (List Ent)} (hl : SL g l) : ((othE g l).map (·.id)).Nodup:=by
 obtain ⟨h1,h2⟩:=othI_spec l.flatten (idsM (com l))
 have : (othE g l).map (·.id) = othI (idsM (com l)) l.flatten:=by
  unfold othE
  rw [List.map_map]
  conv=>rhs; rw [← List.map_id (othI (idsM (com l)) l.flatten)]
  refine List.map_congr_left fun z hz=>?_
  obtain ⟨_,x,hx,e⟩:=h2 z hz
  obtain ⟨s,hs,hxs⟩:=List.mem_flatten.1 hx
  have:=evOf_id (hl.has s hs x hxs)
  rw [e] at this
  exact this
 rw [this]; exact h1
def preL (l : List (List Ent)) (i : Nat) (s : List Ent) (j : Nat) : List Ent:=(l.take i).flatten ++ s.take j
theorem preL_next {l : List (List Ent)} {i : Nat} {s : List Ent} (h : l[i]? = some s) : preL l (i + 1) [] 0 = preL l i s s.length:=by
 unfold preL
 rw [ZA,h,ZC,List.flatten_append,Zt]
 simp
theorem preL_zero (l : List (List Ent)) (i : Nat) (s : List Ent) : preL l i s 0 = preL l i [] 0:=by simp [preL]
theorem preL_all (l : List (List Ent)) : preL l l.length [] 0 = l.flatten:=by unfold preL; rw [Zt]; simp
theorem preL_step {l : List (List Ent)} {i : Nat} {s : List Ent} {j : Nat} {y : Ent} (h : s[j]? = some y) : preL l i s (j + 1) = preL l i s j ++ [y]:=by
 unfold preL
 rw [ZA,h,ZC,Zh]
theorem othI_len : ∀ (l : List Ent) (met : List Int),(othI met l).length ≤ l.length
 | [],_=>Zg _
 | x :: l,met=>by
   simp only [othI]
   split
   ·have:=othI_len l met; simp only [Zw]; omega
   ·have:=othI_len l (met ++ [x.id]); simp only [Zw]; omega
theorem flat_len {l : List (List Ent)} (h : ∀ s ∈ l,s.length ≤ 400) : l.flatten.length ≤ 400 * l.length:=by
 induction l with
 | nil=>exact Zj _
 | cons s l ih =>
  have h1:=h s Zv
  have h2:=ih fun s hs=>h s (ZO _ hs)
  simp only [Yh,Zb,Zw]
  omega
theorem oth_bound {g : Gr} {l : List (List Ent)} (hl : SL g l) (met : List Int) (i : Nat) {s : List Ent} (hs : s.length ≤ 400) (j : Nat) : (othI met (preL l i s j)).length ≤ 30000:=by
 have h1:=othI_len (preL l i s j) met
 have h2:=flat_len (l:=l.take i) fun s hs=>hl.len s (Yl hs)
 have h3:=hl.n
 have h4 : (l.take i).length ≤ l.length:=by rw [Zq]; omega
 have h5 : (s.take j).length ≤ s.length:=by rw [Zq]; omega
 unfold preL at h1
 rw [Zb] at h1
 unfold preL
 omega
def comA (l : List (List Ent)) (s : List Ent) (j : Nat) : List Ent:=(s.take j).filter fun x=>!missS l x
section
variable {P : Program} [Is P]
theorem c_put (xs : List Ent) (x : Ent) (hx : (xs.length + 1) * 24 ≤ 2 ^ 39) : Con P 96 [.sl 3 (xs.map encEnt),.agg (encEnt x)] (.sl 3 ((putI xs x).map encEnt)):=by
 have h:=(n119 (P:=P) xs x hx).con (by simp only [method_specs_simp])
 have e : convR [Ob.arr true 3 ((putI xs x).map encEnt)] (.ar 0 0 (putI xs x).length) = .sl 3 ((putI xs x).map encEnt):=by simp only [method_specs_simp,Zm,Zi,Zg]
 rwa [e] at h
theorem b_sortEv : bodyOK P 115 = true:=Is.on (fun P=>bodyOK P 115 = true) (by kernel_rfl)
theorem n_resolve (g : Gr) (x : Hs) (l : List (List Ent)) (h : GG g) (hl : SL g l) : NCon P 92 [hV g x,.sl 1 (l.map encSS)] (.ar 0 0 (resI g x.D l).length) [.arr true 3 ((resI g x.D l).map encEnt)]:=by
 have hln:=hl.n
 refine LCon.new (LCon.ofS (n:=117) (rs:=[.tmp 4]) (Is.fn Tryz.func92) rfl (Is.call Tryz.call92) Tryz.results92 Tryz.ntmps92 ?_) (pure1 (pure_ents _ _))
 refine SW.seq (CW.sound ?_)
 simp only [method_specs_simp,seval,hV,hRow]
 refine SW.seq (CW.sound ?_)
 simp only [method_specs_simp,seval,hV,hRow]
 refine sw_meet ⟨pad 117 [.junk,.sl 1 (l.map encSS),.ptr 0 0,.junk,.nil,.ar 1 0 (com l).length,.ar 2 0 0],[.box true [hV g x],.arr true 3 ((com l).map encEnt),.arr true 9 []],[]⟩ ?_ ?_
 ·refine CW.sound ?_
  simp only [method_specs_simp,seval,hV,hRow]
  refine gB_split (fun hpos=>?_) (fun hpos=>?_)
  ·simp only [decide_eq_true_eq] at hpos
   obtain ⟨s0,hs0⟩ : ∃ s0,l[0]? = some s0:=⟨_,Zc (by omega)⟩
   have hs0l:=hl.len s0 (Zn hs0)
   have hcom : com l = comA l s0 s0.length:=by
    cases l with
    | nil=>simp at hs0
    | cons s l=>simp at hs0; subst hs0; unfold com comA; rw [Zt]
   simp only [method_specs_simp,seval,hV,hRow,hs0,encSS]
   refine ⟨by omega,?_⟩
   refine SW.while (A:=Nat) (fun j=>⟨pad 117 [.junk,.sl 1 (l.map encSS),.ptr 0 0,.junk,.nil,.ar 1 0 (comA l s0 j).length,.ar 2 0 0,.junk,.junk,.junk,.junk,.junk,.junk,.junk,.junk,.junk,.junk,.junk,.junk,.junk,.junk,.junk,.junk,.junk,.junk,.junk,.junk,.sl 3 (s0.map encEnt),.int .i64 s0.length,.int .i64 j],[.box true [hV g x],.arr true 3 ((comA l s0 j).map encEnt),.arr true 9 []],[]⟩) (fun j=>s0.length - j) (fun j=>j ≤ s0.length) 0 [0,1,2] (Zj _) ?_ ?_
   ·have h0 : comA l s0 0 = []:=rfl
    rw [h0]
    simp only [mvcgen_simp,method_specs_simp,seval,hV,hRow]
   ·intro j hj
    have hal : (comA l s0 j).length ≤ 400:=by
     have h1:=Yq (fun x=>!missS l x) (s0.take j)
     unfold comA
     rw [Zq] at h1
     omega
    have w1 : IntKind.i64.wrap ((j : Int) + 1) = ((j + 1 : Nat) : Int):=wadd1 j (by omega)
    refine CW.sound ?_
    simp only [method_specs_simp,seval,hV,hRow]
    refine gB_split (fun h1=>?_) (fun h1=>?_)
    ·simp only [decide_eq_true_eq,Za] at h1
     obtain ⟨y,hy⟩ : ∃ y,s0[j]? = some y:=⟨_,Zc h1⟩
     simp only [method_specs_simp,seval,hV,hRow,hy,encEnt]
     refine ⟨by omega,by omega,?_⟩
     refine clY.conF (c_containsFSS l _ [.fptr (encEnt y) 0] (fun s=>!s.any (entEq y)) ⟨of_eq_true (encEnt_refs1 _ y),trivial⟩ (fun s hs=>c_resolve1 s y (by have:=hl.len s hs; omega)) (by omega)) (by simp only [method_specs_simp,encEnt]) ⟨of_eq_true (encSS_refs _ l),⟨trivial,of_eq_true (encEnt_refs1 _ y),trivial⟩,trivial⟩ trivial ?_
     have hnx : comA l s0 (j + 1) = comA l s0 j ++ (if (!missS l y) = true then [y] else []):=by unfold comA; rw [filter_s hy]
     change _
     cases hms : missS l y with
     | true =>
      rw [hms,Zd,if_neg (by decide),ZF] at hnx
      have hms2 : (l.any fun s=>!s.any (entEq y)) = true:=hms
      rw [hms2]
      simp only [method_specs_simp,seval,hV,hRow]
      refine Again.mk (j + 1) [0,1,2] h1 (Zl h1 (Zk _)) ?_
      rw [hnx]
      simp only [mvcgen_simp,method_specs_simp,seval,hV,hRow,w1]
     | false =>
      rw [hms,Bool.not_false,if_pos rfl] at hnx
      have hms2 : (l.any fun s=>!s.any (entEq y)) = false:=hms
      rw [hms2]
      have e1 : (comA l s0 j).map encEnt ++ [[V.int .i64 y.kind,V.int .i64 y.key,V.int .i64 y.id]] = (comA l s0 (j + 1)).map encEnt:=by rw [hnx,Zs]; rfl
      have e2 : (comA l s0 j).length + 1 = (comA l s0 (j + 1)).length:=by rw [hnx,Zb]; rfl
      simp only [method_specs_simp,seval,hV,hRow]
      refine ⟨by omega,by omega,?_⟩
      rw [e1,e2]
      refine Again.mk (j + 1) [0,5,2] h1 (Zl h1 (Zk _)) ?_
      simp only [mvcgen_simp,method_specs_simp,seval,hV,hRow,w1]
    ·have hj2 : j = s0.length:=by simp only [decide_eq_false_iff_not,Zd,Za] at h1; omega
     refine again_meet [0,1,2] ?_
     rw [hcom,hj2]
     simp only [mvcgen_simp,method_specs_simp,seval,hV,hRow]
  ·have hl0 : l = []:=by
    cases l with
    | nil=>rfl
    | cons s l=>simp at hpos
   subst hl0
   refine again_meet [0,1,2] ?_
   have h0 : com [] = []:=rfl
   rw [h0]
   simp only [mvcgen_simp,method_specs_simp,seval,hV,hRow]
 ·have hcl : (com l).length ≤ 400:=by
   cases l with
   | nil=>exact Zj _
   | cons s l =>
    have h1:=hl.len s Zv
    have h2:=Yq (fun x=>!missS (s :: l) x) s
    show (s.filter fun x=>!missS (s :: l) x).length ≤ 400
    omega
  obtain ⟨o,ho⟩ : ∃ o,o = com l:=⟨_,rfl⟩
  rw [← ho] at hcl ⊢
  refine SW.seq (CW.sound ?_)
  simp only [method_specs_simp,seval,hV,hRow]
  refine sw_meet ⟨pad 117 [.junk,.sl 1 (l.map encSS),.ptr 0 0,.junk,.nil,.ar 1 0 o.length,.ar 2 0 0,.junk,.junk,.map 3],[.box true [hV g x],.arr true 3 (o.map encEnt),.arr true 9 [],.mp true (mpI .i64 V.bool (metL (idsM o))).1 (mpI .i64 V.bool (metL (idsM o))).2],[]⟩ ?_ ?_
  ·refine CW.sound ?_
   simp only [method_specs_simp,seval,hV,hRow]
   refine SW.while (A:=Nat) (fun j=>⟨pad 117 [.junk,.sl 1 (l.map encSS),.ptr 0 0,.junk,.nil,.ar 1 0 o.length,.ar 2 0 0,.junk,.junk,.map 3,.junk,.junk,.junk,.junk,.junk,.junk,.junk,.junk,.junk,.junk,.junk,.junk,.junk,.junk,.junk,.junk,.junk,.junk,.junk,.junk,.junk,.junk,.junk,.junk,.junk,.junk,.junk,.junk,.junk,.junk,.junk,.junk,.junk,.ar 1 0 o.length,.int .i64 o.length,.int .i64 j],[.box true [hV g x],.arr true 3 (o.map encEnt),.arr true 9 [],.mp true (mpI .i64 V.bool (metL (idsM (o.take j)))).1 (mpI .i64 V.bool (metL (idsM (o.take j)))).2],[]⟩) (fun j=>o.length - j) (fun j=>j ≤ o.length) 0 [0,1,2,3] (Zj _) ?_ ?_
   ·have h0 : idsM (o.take 0) = []:=rfl
    have hz : mpI .i64 V.bool (metL []) = ([],[]):=rfl
    rw [h0]
    simp only [mvcgen_simp,method_specs_simp,seval,hV,hRow,hz]
   ·intro j hj
    have w1 : IntKind.i64.wrap ((j : Int) + 1) = ((j + 1 : Nat) : Int):=wadd1 j (by omega)
    refine CW.sound ?_
    simp only [method_specs_simp,seval,hV,hRow]
    refine gB_split (fun h1=>?_) (fun h1=>?_)
    ·simp only [decide_eq_true_eq,Za] at h1
     obtain ⟨y,hy⟩ : ∃ y,o[j]? = some y:=⟨_,Zc h1⟩
     simp only [method_specs_simp,seval,hV,hRow,hy,encEnt]
     refine ⟨by omega,by omega,?_⟩
     refine muY.ints V.bool (metL (idsM (o.take j))) true false rfl (by simp only [method_specs_simp]) ?_
     rw [put_metP,← idsM_next hy]
     simp only [method_specs_simp,seval,hV,hRow]
     refine Again.mk (j + 1) [0,1,2,3] h1 (Zl h1 (Zk _)) ?_
     simp only [mvcgen_simp,method_specs_simp,seval,hV,hRow,w1]
    ·have hj2 : j = o.length:=by simp only [decide_eq_false_iff_not,Zd,Za] at h1; omega
     refine again_meet [0,1,2,3] ?_
     rw [hj2,Zm (Zg _)]
     simp only [mvcgen_simp,method_specs_simp,seval,hV,hRow]
  ·refine sw_meet ⟨pad 117 [.junk,.junk,.ptr 0 0,.junk,.nil,.ar 1 0 o.length,.ar 2 0 (othI (idsM o) l.flatten).length],[.box true [hV g x],.arr true 3 (o.map encEnt),.arr true 9 (((othI (idsM o) l.flatten).map (evOf g)).map encEv)],[]⟩ ?_ ?_
   ·refine CW.sound ?_
    simp only [method_specs_simp,seval,hV,hRow]
    refine SW.while (A:=Nat) (fun i=>⟨pad 117 [.junk,.junk,.ptr 0 0,.junk,.nil,.ar 1 0 o.length,.ar 2 0 (othI (idsM o) (preL l i [] 0)).length,.junk,.junk,.map 3,.junk,.junk,.junk,.junk,.junk,.junk,.junk,.junk,.junk,.junk,.junk,.junk,.junk,.junk,.junk,.junk,.junk,.junk,.junk,.junk,.junk,.junk,.junk,.junk,.junk,.junk,.junk,.junk,.junk,.junk,.junk,.junk,.junk,.junk,.junk,.junk,.junk,.junk,.junk,.junk,.junk,.junk,.junk,.sl 1 (l.map encSS),.int .i64 l.length,.int .i64 i],[.box true [hV g x],.arr true 3 (o.map encEnt),.arr true 9 (((othI (idsM o) (preL l i [] 0)).map (evOf g)).map encEv),.mp true (mpI .i64 V.bool (metL (idsM o ++ othI (idsM o) (preL l i [] 0)))).1 (mpI .i64 V.bool (metL (idsM o ++ othI (idsM o) (preL l i [] 0)))).2],[]⟩) (fun i=>l.length - i) (fun i=>i ≤ l.length) 0 [0,1,2,3] (Zj _) ?_ ?_
    ·have h0 : othI (idsM o) (preL l 0 [] 0) = []:=rfl
     rw [h0,ZF]
     simp only [mvcgen_simp,method_specs_simp,seval,hV,hRow]
    ·intro i hi
     have w1 : IntKind.i64.wrap ((i : Int) + 1) = ((i + 1 : Nat) : Int):=wadd1 i (by omega)
     refine CW.sound ?_
     simp only [method_specs_simp,seval,hV,hRow]
     refine gB_split (fun h1=>?_) (fun h1=>?_)
     ·simp only [decide_eq_true_eq,Za] at h1
      obtain ⟨s,hs⟩ : ∃ s,l[i]? = some s:=⟨_,Zc h1⟩
      have hsl:=hl.len s (Zn hs)
      simp only [method_specs_simp,seval,hV,hRow,hs,encSS]
      refine ⟨by omega,by omega,?_⟩
      refine SW.while (A:=Nat) (fun j=>⟨pad 117 [.junk,.junk,.ptr 0 0,.junk,.nil,.ar 1 0 o.length,.ar 2 0 (othI (idsM o) (preL l i s j)).length,.junk,.junk,.map 3,.junk,.junk,.junk,.junk,.junk,.junk,.junk,.junk,.junk,.junk,.junk,.junk,.junk,.junk,.junk,.junk,.junk,.junk,.junk,.junk,.junk,.junk,.junk,.junk,.junk,.junk,.junk,.junk,.junk,.junk,.junk,.junk,.junk,.junk,.junk,.junk,.junk,.junk,.junk,.junk,.junk,.junk,.junk,.sl 1 (l.map encSS),.int .i64 l.length,.int .i64 i,.junk,.junk,.junk,.sl 3 (s.map encEnt),.int .i64 s.length,.int .i64 j],[.box true [hV g x],.arr true 3 (o.map encEnt),.arr true 9 (((othI (idsM o) (preL l i s j)).map (evOf g)).map encEv),.mp true (mpI .i64 V.bool (metL (idsM o ++ othI (idsM o) (preL l i s j)))).1 (mpI .i64 V.bool (metL (idsM o ++ othI (idsM o) (preL l i s j)))).2],[]⟩) (fun j=>s.length - j) (fun j=>j ≤ s.length) 0 [0,1,2,3] (Zj _) ?_ ?_
      ·rw [preL_zero l i s]
       simp only [mvcgen_simp,method_specs_simp,seval,hV,hRow]
      ·intro j hj
       have hob:=oth_bound hl (idsM o) i hsl j
       have w2 : IntKind.i64.wrap ((j : Int) + 1) = ((j + 1 : Nat) : Int):=wadd1 j (by omega)
       refine CW.sound ?_
       simp only [method_specs_simp,seval,hV,hRow]
       refine gB_split (fun h2=>?_) (fun h2=>?_)
       ·simp only [decide_eq_true_eq,Za] at h2
        obtain ⟨y,hy⟩ : ∃ y,s[j]? = some y:=⟨_,Zc h2⟩
        have hst:=preL_step (l:=l) (i:=i) hy
        obtain ⟨met,hmet⟩ : ∃ met,met = idsM o ++ othI (idsM o) (preL l i s j):=⟨_,rfl⟩
        have hsn:=othI_snoc (preL l i s j) (idsM o) y
        rw [← hst,← hmet] at hsn
        simp only [method_specs_simp,seval,hV,hRow,hy,encEnt]
        refine ⟨by omega,by omega,?_⟩
        refine lkY.ints V.bool (metL (idsM o ++ othI (idsM o) (preL l i s j))) false rfl (by simp only [method_specs_simp]) ?_
        rw [look_met,← hmet]
        cases hmc : met.contains y.id with
        | true =>
         rw [hmc,if_pos rfl,ZF] at hsn
         simp only [method_specs_simp,seval,hV,hRow]
         refine Again.mk (j + 1) [0,1,2,3] h2 (Zl h2 (Zk _)) ?_
         rw [hsn,← hmet]
         simp only [mvcgen_simp,method_specs_simp,seval,hV,hRow,w2]
        | false =>
         rw [hmc,if_neg (by decide)] at hsn
         simp only [method_specs_simp,seval,hV,hRow]
         refine muY.ints V.bool (metL met) true false rfl (by simp only [method_specs_simp]) ?_
         rw [put_met met y.id hmc]
         simp only [method_specs_simp,seval,hV,hRow]
         refine ⟨by kernel_rfl,?_⟩
         refine clY.con (c_at g y.id h.hx h.srt) (by simp only [method_specs_simp,encGr]) ?_
         obtain ⟨e2,he2⟩ : ∃ e2,e2 = (atE g.events y.id).getD zE:=⟨_,rfl⟩
         have hev : evOf g y.id = e2:=he2.symm
         rw [← he2]
         simp only [method_specs_simp,seval,hV,hRow,encEv]
         have e1 : ((othI (idsM o) (preL l i s j)).map (evOf g)).map encEv ++ [[V.int .i64 e2.id,V.int .i64 e2.room,V.int .i64 e2.author,V.int .i64 e2.kind,V.int .i64 e2.key,V.int .i64 e2.n,V.str e2.text,V.sl 1 (e2.prev.map encI),V.int .i64 e2.time]] = ((othI (idsM o) (preL l i s (j + 1))).map (evOf g)).map encEv:=by rw [hsn,Zs,Zs,ZV,ZV,hev]; rfl
         have e3 : (othI (idsM o) (preL l i s j)).length + 1 = (othI (idsM o) (preL l i s (j + 1))).length:=by rw [hsn,Zb]; rfl
         have e4 : met ++ [y.id] = idsM o ++ othI (idsM o) (preL l i s (j + 1)):=by rw [hsn,hmet,Zh]
         refine ⟨by omega,by omega,?_⟩
         rw [e1,e3,e4]
         refine Again.mk (j + 1) [0,1,7,3] h2 (Zl h2 (Zk _)) ?_
         simp only [mvcgen_simp,method_specs_simp,seval,hV,hRow,w2]
       ·have hj2 : j = s.length:=by simp only [decide_eq_false_iff_not,Zd,Za] at h2; omega
        refine Again.mk (i + 1) [0,1,2,3] h1 (Zl h1 (Zk _)) ?_
        rw [preL_next hs,hj2]
        simp only [mvcgen_simp,method_specs_simp,seval,hV,hRow,w1]
     ·have hi2 : i = l.length:=by simp only [decide_eq_false_iff_not,Zd,Za] at h1; omega
      refine again_meet [0,1,2] ?_
      rw [hi2,preL_all]
      simp only [mvcgen_simp,method_specs_simp,seval,hV,hRow]
   ·obtain ⟨L,hL⟩ : ∃ L,L = othE g l:=⟨_,rfl⟩
    have hL2 : (othI (idsM o) l.flatten).map (evOf g) = L:=by rw [hL,ho]; rfl
    have hLn : (othI (idsM o) l.flatten).length = L.length:=by rw [← hL2,Zi]
    have hLb : L.length ≤ 30000:=by
     have h1:=oth_bound hl (idsM o) l.length (s:=[]) (Zj _) 0
     rw [preL_all,hLn] at h1
     exact h1
    have hso : LCon P 115 [.ar 0 0 L.length,.fn 116 [] [.fptr [hV g x] 0]] [.arr true 9 (L.map encEv)] (.tup []) [.arr true 9 ((ordR x.D L).map encEv)] :=
     LCon.sortK (k:=9) (fun _=>rfl) (by decide) (fun b=>encEv_ref1 _ b) (fun b=>encEv_one1 [] b) (caps:=[.fptr [hV g x] 0]) ⟨⟨hRow_ref _ g x,trivial⟩,trivial⟩ (cmpD x.D) (fun a _ b _=>c_resolve2 g x a b) (fun a _=>cmpD_irr x.D a) (fun a _ b _ c _ h1 h2=>cmpD_tr h1 h2) (fun a _ b _ c _ h1 h2=>cmpD_nt h1 h2) (fun l2 hp hs=>ordR_uniq (hL ▸ othE_nodup hl) hp hs) (by omega) b_sortEv (Is.call Tryz.call116) k_sortEvent k_sortEvent0
    rw [hL2,hLn]
    refine SW.seq (CW.sound ?_)
    simp only [method_specs_simp,seval,hV,hRow]
    refine clY.live [2] [0] hso ?_ (by simp) ?_
    ·simp only [mvcgen_simp,method_specs_simp,seval,hV,hRow]
    obtain ⟨S,hS⟩ : ∃ S,S = ordR x.D L:=⟨_,rfl⟩
    have hSl : S.length = L.length:=by rw [hS]; exact (Yx _ _).length_eq
    rw [← hS]
    simp only [method_specs_simp,seval,hV,hRow]
    have htk : Yr S.length (S.map encEv) = S.map encEv:=Zm (by rw [Zi]; exact Zg _)
    have hRe : resI g x.D l = S.foldl (stepR g) o:=by unfold resI; rw [hS,hL,ho]
    have hos : o.Pairwise ltE:=by
     rw [ho]
     cases l with
     | nil=>exact List.Pairwise.nil
     | cons s l=>exact (hl.srt s Zv).sublist Yp
    rw [hRe,← hSl]
    refine SW.freeze [2] ?_
    simp only [mvcgen_simp,method_specs_simp,seval,hV,hRow,convs_r8j,conv_junkj,htk]
    refine SW.seq (CW.sound ?_)
    simp only [method_specs_simp,seval,hV,hRow]
    refine SW.while (A:=Nat) (fun k=>⟨pad 117 [.junk,.junk,.fptr [hV g x] 0,.junk,.nil,.ar 0 0 ((S.take k).foldl (stepR g) o).length,.junk,.junk,.junk,.junk,.junk,.junk,.junk,.junk,.junk,.junk,.junk,.junk,.junk,.junk,.junk,.junk,.junk,.junk,.junk,.junk,.junk,.junk,.junk,.junk,.junk,.junk,.junk,.junk,.junk,.junk,.junk,.junk,.junk,.junk,.junk,.junk,.junk,.junk,.junk,.junk,.junk,.junk,.junk,.junk,.junk,.junk,.junk,.junk,.junk,.junk,.junk,.junk,.junk,.junk,.junk,.junk,.junk,.junk,.junk,.junk,.junk,.junk,.junk,.junk,.junk,.junk,.junk,.junk,.junk,.junk,.junk,.junk,.junk,.junk,.junk,.junk,.junk,.junk,.junk,.junk,.junk,.junk,.junk,.junk,.junk,.junk,.sl 9 (S.map encEv),.int .i64 S.length,.int .i64 k],[.arr true 3 (((S.take k).foldl (stepR g) o).map encEnt)],[]⟩) (fun k=>S.length - k) (fun k=>k ≤ S.length ∧ ((S.take k).foldl (stepR g) o).Pairwise ltE ∧ ((S.take k).foldl (stepR g) o).length ≤ 400 + k) 0 [1] ⟨Zj _,hos,by simpa using hcl⟩ ?_ ?_
    ·simp only [mvcgen_simp,method_specs_simp,seval,hV,hRow,YC,List.foldl_nil]
    ·rintro k ⟨hk,hk1,hk2⟩
     have w1 : IntKind.i64.wrap ((k : Int) + 1) = ((k + 1 : Nat) : Int):=wadd1 k (by omega)
     refine CW.sound ?_
     simp only [method_specs_simp,seval,hV,hRow]
     refine gB_split (fun h1=>?_) (fun h1=>?_)
     ·simp only [decide_eq_true_eq,Za] at h1
      obtain ⟨e,he⟩ : ∃ e,S[k]? = some e:=⟨_,Zc h1⟩
      have hfs : (S.take (k + 1)).foldl (stepR g) o = stepR g ((S.take k).foldl (stepR g) o) e:=by rw [ZA,he,ZC,Yk]; rfl
      obtain ⟨u,hu⟩ : ∃ u,u = (S.take k).foldl (stepR g) o:=⟨_,rfl⟩
      rw [← hu] at hk1 hk2 hfs ⊢
      simp only [method_specs_simp,seval,hV,hRow,he,encEv]
      refine ⟨by omega,by omega,by kernel_rfl,?_⟩
      have hGS : GS g u:=⟨h.hx,h.srt,by omega,hk1⟩
      refine clY.conF (c_allowed g u e hGS) (by simp only [method_specs_simp,encGr,encEv]) (by simp only [method_specs_simp,encGr,encEv]) trivial ?_
      simp only [method_specs_simp,seval,hV,hRow]
      refine gB_split (fun hal=>?_) (fun hal=>?_)
      ·have hst : stepR g u e = putI u (entE e):=by unfold stepR; rw [if_pos hal]
       rw [hst] at hfs
       have hput:=put_same u (entE e) hk1
       have hpl:=putI_len u (entE e)
       refine clY.newF (n119 u (entE e) (by omega)) (by simp only [method_specs_simp,encEnt,entE]) (by simp only [method_specs_simp,encEnt,entE]) trivial (flat1 ⟨rfl,flat_ents _⟩) ?_
       simp only [method_specs_simp,seval,hV,hRow]
       refine Again.mk (k + 1) [2] ⟨h1,by rw [hfs]; exact hput.2,by rw [hfs]; omega⟩ (Zl h1 (Zk _)) ?_
       rw [hfs]
       simp only [mvcgen_simp,method_specs_simp,seval,hV,hRow,w1]
      ·have hst : stepR g u e = u:=by unfold stepR; rw [if_neg (by rw [hal]; decide)]
       rw [hst] at hfs
       refine Again.mk (k + 1) [0] ⟨h1,by rw [hfs]; exact hk1,by rw [hfs]; omega⟩ (Zl h1 (Zk _)) ?_
       rw [hfs]
       simp only [mvcgen_simp,method_specs_simp,seval,hV,hRow,w1]
     ·have hk3 : k = S.length:=by simp only [decide_eq_false_iff_not,Zd,Za] at h1; omega
      rw [hk3,Zm (Zg _)]
      refine CW.sound ?_
      simp only [method_specs_simp,seval,hV,hRow]
      refine LResY.mk [0] ?_
      simp only [mvcgen_simp,method_specs_simp,seval,hV,hRow]
theorem c_resolve (g : Gr) (x : Hs) (l : List (List Ent)) (h : GG g) (hl : SL g l) : Con P 92 [hV g x,.sl 1 (l.map encSS)] (.sl 3 ((resI g x.D l).map encEnt)):=by
 have h1:=(n_resolve (P:=P) g x l h hl).con (by simp only [method_specs_simp])
 have e : convR [Ob.arr true 3 ((resI g x.D l).map encEnt)] (.ar 0 0 (resI g x.D l).length) = .sl 3 ((resI g x.D l).map encEnt):=by simp only [method_specs_simp,Zm,Zi,Zg]
 rwa [e] at h1
end
def stsA (A : List (Int × Option (List Ent))) (ids : List Int) : List (List Ent):=ids.map fun id=>(lookD A id none).getD []
def hL (g : Gr) (x : Hs) : V:=.fptr [.int .i64 g.room,.sl 9 (g.events.map encEv),.sl 9 (g.parked.map encEv),.fmap (mpI .i64 (V.int .i64) x.D).1 (mpI .i64 (V.int .i64) x.D).2,.map 0,.map 1,.map 2] 0
def obN (l : List (Int × Int)) : Ob:=.mp true (mpI .i64 (V.int .i64) l).1 (mpI .i64 (V.int .i64) l).2
def obS (l : List (Int × Option (List Ent))) : Ob:=.mp true (mpI .i64 fS l).1 (mpI .i64 fS l).2
def hM (x : Hs) : List Ob:=[obS x.B,obS x.A,obN x.R]
@[mvcgen_simp,method_specs_simp] theorem plc_mp {o : Nat} {lv : Bool} {ks vs : List V} {m : List Ob} : plc o (.mp lv ks vs :: m) = .map o :: plc (o + 1) m:=nr rfl
@[mvcgen_simp,method_specs_simp] theorem oren_mp {ρ : Nat → Nat} {lv : Bool} {ks vs : List V} : Ob.ren ρ (.mp lv ks vs) = .mp lv (rens ρ ks) (rens ρ vs):=nr rfl
theorem conv_mapL {m : List Ob} {q : Nat} {ks vs : List V} (h : m[q]? = some (.mp true ks vs)) : conv m (.map q) = .map q:=by
 unfold conv
 rw [h]
section
variable {P : Program} [Is P]
theorem n_states (g : Gr) (x : Hs) (ids : List Int) (hl : ids.length ≤ 60) (hi : ∀ id ∈ ids,(lookD x.A id none).isSome = true) : LCon P 93 [hL g x,.sl 1 (ids.map encI)] (hM x) (.sl 1 ((stsA x.A ids).map encSS)) (hM x):=by
 refine LCon.ofS (n:=26) (rs:=[.tmp 4]) (Is.fn Tryz.func93) rfl (Is.call Tryz.call93) Tryz.results93 Tryz.ntmps93 ?_
 refine SW.seq (CW.sound ?_)
 simp only [method_specs_simp,seval,hL,hM,obN,obS]
 refine SW.seq (CW.sound ?_)
 simp only [method_specs_simp,seval,hL,hM,obN,obS]
 refine SW.seq (CW.sound ?_)
 simp only [method_specs_simp,seval,hL,hM,obN,obS]
 refine SW.while (A:=Nat) (fun k=>⟨pad 26 [hL g x,.junk,.junk,.junk,.nil,.ar 3 0 (stsA x.A (ids.take k)).length,.junk,.junk,.junk,.sl 1 (ids.map encI),.int .i64 ids.length,.int .i64 k],hM x ++ [.arr true 1 ((stsA x.A (ids.take k)).map encSS)],plc 0 (hM x)⟩) (fun k=>ids.length - k) (fun k=>k ≤ ids.length) 0 [0,1,2,3] (Zj _) ?_ ?_
 ·have h0 : stsA x.A (ids.take 0) = []:=rfl
  rw [h0]
  simp only [mvcgen_simp,method_specs_simp,seval,hL,hM,obN,obS]
 ·intro k hk
  have hln : (stsA x.A (ids.take k)).length = k:=by unfold stsA; rw [Zi,Zq]; omega
  have w1 : IntKind.i64.wrap ((k : Int) + 1) = ((k + 1 : Nat) : Int):=wadd1 k (by omega)
  refine CW.sound ?_
  simp only [method_specs_simp,seval,hL,hM,obN,obS]
  refine gB_split (fun h=>?_) (fun h=>?_)
  ·simp only [decide_eq_true_eq,Za] at h
   obtain ⟨id,hid⟩ : ∃ id,ids[k]? = some id:=⟨_,Zc h⟩
   obtain ⟨s,hs⟩:=Option.isSome_iff_exists.1 (hi id (Zn hid))
   have hnx : stsA x.A (ids.take (k + 1)) = stsA x.A (ids.take k) ++ [s]:=by unfold stsA; rw [ZA,hid,ZC,Zs,ZV,hs]; rfl
   have e1 : (stsA x.A (ids.take k)).map encSS ++ [[V.sl 3 (s.map encEnt)]] = (stsA x.A (ids.take (k + 1))).map encSS:=by rw [hnx,Zs]; rfl
   have e2 : (stsA x.A (ids.take k)).length + 1 = (stsA x.A (ids.take (k + 1))).length:=by rw [hnx,Zb]; rfl
   simp only [method_specs_simp,seval,hL,hM,obN,obS,hid,encI]
   refine ⟨by omega,by omega,?_⟩
   refine lkY.ints fS x.A none rfl (by simp only [method_specs_simp,fS]) ?_
   rw [hs]
   simp only [method_specs_simp,seval,hL,hM,obN,obS,fS]
   refine ⟨by omega,by omega,?_⟩
   rw [e1,e2]
   refine Again.mk (k + 1) [0,1,2,5] h (Zl h (Zk _)) ?_
   simp only [mvcgen_simp,method_specs_simp,seval,hL,hM,obN,obS,w1]
  ·have hk2 : k = ids.length:=by simp only [decide_eq_false_iff_not,Zd,Za] at h; omega
   have htk : Yr (stsA x.A ids).length ((stsA x.A ids).map encSS) = (stsA x.A ids).map encSS:=Zm (by rw [Zi]; exact Zg _)
   rw [hk2,Zm (Zg _)]
   refine SW.freeze [3] ?_
   simp only [mvcgen_simp,method_specs_simp,seval,hL,hM,obN,obS,convs_r8j,conv_junkj,htk]
   refine CW.sound ?_
   simp only [method_specs_simp,seval,hL,hM,obN,obS]
   refine LResY.mk [0,1,2] ?_
   rw [conv_mapL (q:=0) rfl,conv_mapL (q:=1) rfl,conv_mapL (q:=2) rfl]
   simp only [mvcgen_simp,method_specs_simp,seval,hL,hM,obN,obS,htk]
end
def codeH (g : Gr) (s : List Ent) (e : Ev) : Int:=if allowedE g s e == 0 && (e.kind == 8 && !aheadE g e.key e) then 6 else allowedE g s e
def behH (g : Gr) (s : List Ent) (e : Ev) : List Ent:=if codeH g s e == 0 && decide (e.kind ≤ 6) then putI s (entE e) else s
def addH (g : Gr) (x : Hs) (e : Ev) : Hs :=
 ⟨x.D,putK x.B e.id (some (resI g x.D (stsA x.A e.prev))),putK x.A e.id (some (behH g (resI g x.D (stsA x.A e.prev)) e)),putK x.R e.id (codeH g (resI g x.D (stsA x.A e.prev)) e)⟩
theorem stepR_ok {g : Gr} : ∀ (L : List Ev) {u : List Ent},u.Pairwise ltE → (L.foldl (stepR g) u).Pairwise ltE ∧ (L.foldl (stepR g) u).length ≤ u.length + L.length
 | [],u,h=>⟨h,Zg _⟩
 | e :: L,u,h=>by
   have h1 : (stepR g u e).Pairwise ltE ∧ (stepR g u e).length ≤ u.length + 1:=by
    unfold stepR
    split
    ·exact ⟨(put_same u (entE e) h).2,putI_len u (entE e)⟩
    ·exact ⟨h,Nat.le_succ _⟩
   obtain ⟨h2,h3⟩:=stepR_ok L h1.1
   refine ⟨h2,?_⟩
   simp only [YP,Zw]
   omega
theorem resI_ok {g : Gr} {D : List (Int × Int)} {l : List (List Ent)} (hl : SL g l) : (resI g D l).Pairwise ltE ∧ (resI g D l).length ≤ 40000:=by
 have hos : (com l).Pairwise ltE ∧ (com l).length ≤ 400:=by
  cases l with
  | nil=>exact ⟨List.Pairwise.nil,Zj _⟩
  | cons s l =>
   refine ⟨(hl.srt s Zv).sublist Yp,?_⟩
   have h1:=hl.len s Zv
   have h2:=Yq (fun x=>!missS (s :: l) x) s
   show (s.filter fun x=>!missS (s :: l) x).length ≤ 400
   omega
 obtain ⟨h1,h2⟩:=stepR_ok (g:=g) (ordR D (othE g l)) hos.1
 have h3 : (ordR D (othE g l)).length = (othE g l).length:=(Yx _ _).length_eq
 have h4:=oth_bound hl (idsM (com l)) l.length (s:=[]) (Zj _) 0
 rw [preL_all] at h4
 have h5 : (othE g l).length = (othI (idsM (com l)) l.flatten).length:=Zi _
 refine ⟨h1,?_⟩
 unfold resI
 omega
theorem hL_le (g : Gr) (x : Hs) : VLe (hL g x) (hV g x):=VLe.fptr (.cons (VLe.refl _) (.cons (VLe.refl _) (.cons (VLe.refl _) (.cons (VLe.refl _) (.cons (VLe.junk _) (.cons (VLe.junk _) (.cons (VLe.junk _) .nil)))))))
section
variable {P : Program} [Is P]
theorem n_add (g : Gr) (x : Hs) (e : Ev) (h : GG g) (he : e ∈ g.events) (hi : ∀ id ∈ e.prev,(lookD x.A id none).isSome = true) (hsl : SL g (stsA x.A e.prev)) : LCon P 72 [hL g x,.agg (encEv e)] (hM x) (.tup []) (hM (addH g x e)):=by
 have h4:=h.four e he
 refine LCon.ofS (n:=86) (rs:=[]) (Is.fn Tryz.func72) rfl (Is.call Tryz.call72) Tryz.results72 Tryz.ntmps72 ?_
 refine SW.seq (CW.sound ?_)
 simp only [method_specs_simp,seval,hL,hM,obN,obS,encEv]
 refine SW.seq (CW.sound ?_)
 simp only [method_specs_simp,seval,hL,hM,obN,obS,encEv]
 refine clY.live [0,1,2] [] (n_states g x e.prev (by omega) hi) ?_ (by simp [hM]) ?_
 ·simp only [mvcgen_simp,method_specs_simp,seval,hL,hM,obN,obS,encEv]
 simp only [method_specs_simp,seval,hL,hM,obN,obS,encEv]
 refine clY.conW (xs':=[hV g x,.sl 1 ((stsA x.A e.prev).map encSS)]) (c_resolve g x (stsA x.A e.prev) h hsl) (VLes.cons (hL_le g x) (VLes.same VLes.nil)) ⟨hRow_ref _ g x,of_eq_true (encSS_refs _ _),trivial⟩ ?_
 simp only [method_specs_simp,seval,hL,hM,obN,obS,encEv,oren_mp]
 refine SW.seq (CW.sound ?_)
 simp only [method_specs_simp,seval,hL,hM,obN,obS,encEv]
 refine ⟨by kernel_rfl,?_⟩
 obtain ⟨hr1,hr2⟩:=resI_ok (g:=g) (D:=x.D) hsl
 obtain ⟨s,hs⟩ : ∃ s,s = resI g x.D (stsA x.A e.prev):=⟨_,rfl⟩
 have hadd : addH g x e = ⟨x.D,putK x.B e.id (some s),putK x.A e.id (some (behH g s e)),putK x.R e.id (codeH g s e)⟩:=by rw [hs]; rfl
 rw [hadd]
 rw [← hs] at hr1 hr2 ⊢
 have hGS : GS g s:=⟨h.hx,h.srt,by omega,hr1⟩
 refine clY.con (c_allowed g s e hGS) (by simp only [method_specs_simp,encGr,encEv]) ?_
 simp only [method_specs_simp,seval,hL,hM,obN,obS,encEv]
 refine sw_meet ⟨pad 86 [hL g x,.junk,.junk,.ptr 3 0,.sl 3 (s.map encEnt),.int .i64 (codeH g s e)],[obS x.B,obS x.A,obN x.R,.box true (encEv e)],plc 0 (hM x)⟩ ?_ ?_
 ·refine CW.sound ?_
  simp only [method_specs_simp,seval,hL,hM,obN,obS,encEv]
  refine ⟨by kernel_rfl,?_⟩
  refine gB_split (fun k1=>?_) (fun k1=>?_)
  ·refine gB_split (fun k2=>?_) (fun k2=>?_)
   ·refine clY.con (c_ahead g e.key e h he) (by simp only [method_specs_simp,encGr,encEv]) ?_
    cases k3 : aheadE g e.key e with
    | true =>
     have hc : codeH g s e = allowedE g s e:=by unfold codeH; rw [k3]; simp
     simp only [method_specs_simp,seval,hL,hM,obN,obS,encEv]
     refine again_meet [0,1,2,3] ?_
     rw [hc]
     simp only [mvcgen_simp,method_specs_simp,seval,hL,hM,obN,obS,encEv]
    | false =>
     have hc : codeH g s e = 6:=by unfold codeH; rw [k3,k1,k2]; rfl
     simp only [method_specs_simp,seval,hL,hM,obN,obS,encEv]
     refine again_meet [0,1,2,3] ?_
     rw [hc]
     simp only [mvcgen_simp,method_specs_simp,seval,hL,hM,obN,obS,encEv]
   ·have hc : codeH g s e = allowedE g s e:=by unfold codeH; rw [k2]; simp
    refine again_meet [0,1,2,3] ?_
    rw [hc]
    simp only [mvcgen_simp,method_specs_simp,seval,hL,hM,obN,obS,encEv]
  ·have hc : codeH g s e = allowedE g s e:=by unfold codeH; rw [k1]; simp
   refine again_meet [0,1,2,3] ?_
   rw [hc]
   simp only [mvcgen_simp,method_specs_simp,seval,hL,hM,obN,obS,encEv]
 refine SW.seq (CW.sound ?_)
 simp only [method_specs_simp,seval,hL,hM,obN,obS,encEv]
 refine ⟨by kernel_rfl,?_⟩
 refine meY.ints fS x.B none rfl (by simp only [method_specs_simp,fS]) ?_
 simp only [method_specs_simp,seval,hL,hM,obN,obS,encEv]
 refine esY.ints fS (putK x.B e.id (lookD x.B e.id none)) (some s) (k:=e.id) rfl (posK_putK _ _ _) ?_
 rw [putK_putK]
 simp only [method_specs_simp,seval,hL,hM,obN,obS,encEv]
 refine meY.ints fS x.A none rfl (by simp only [method_specs_simp,fS]) ?_
 simp only [method_specs_simp,seval,hL,hM,obN,obS,encEv]
 refine esY.ints fS (putK x.A e.id (lookD x.A e.id none)) (some s) (k:=e.id) rfl (posK_putK _ _ _) ?_
 rw [putK_putK]
 simp only [method_specs_simp,seval,hL,hM,obN,obS,encEv]
 refine meY.ints (V.int .i64) x.R 0 rfl (by simp only [method_specs_simp]) ?_
 simp only [method_specs_simp,seval,hL,hM,obN,obS,encEv]
 refine esY.ints (V.int .i64) (putK x.R e.id (lookD x.R e.id 0)) (codeH g s e) (k:=e.id) rfl (posK_putK _ _ _) ?_
 rw [putK_putK]
 simp only [method_specs_simp,seval,hL,hM,obN,obS,encEv]
 refine CW.sound ?_
 simp only [method_specs_simp,seval,hL,hM,obN,obS,encEv]
 have hend : ∀ b : Bool,(codeH g s e == 0 && decide (e.kind ≤ 6)) = b → behH g s e = if b then putI s (entE e) else s:=fun b hb=>by unfold behH; rw [hb]
 refine gB_split (fun k1=>?_) (fun k1=>?_)
 ·refine gB_split (fun k2=>?_) (fun k2=>?_)
  ·have hb:=hend true (by rw [k1,k2]; rfl)
   rw [if_pos rfl] at hb
   refine ⟨by kernel_rfl,?_⟩
   refine clY.con (c_put s (entE e) (by omega)) (by simp only [method_specs_simp,encEnt,entE]) ?_
   simp only [method_specs_simp,seval,hL,hM,obN,obS,encEv]
   refine muY.ints fS (putK x.A e.id (some s)) (some (putI s (entE e))) none rfl (by simp only [method_specs_simp,fS]) ?_
   rw [putK_putK,hb]
   simp only [method_specs_simp,seval,hL,hM,obN,obS,encEv]
   refine LResY.mk [0,1,2] ?_
   simp only [mvcgen_simp,method_specs_simp,seval,hL,hM,obN,obS,encEv]
  ·have hb:=hend false (by rw [k1,k2]; rfl)
   rw [if_neg (by decide)] at hb
   rw [hb]
   refine LResY.mk [0,1,2] ?_
   simp only [mvcgen_simp,method_specs_simp,seval,hL,hM,obN,obS,encEv]
 ·have hb:=hend false (by rw [k1]; rfl)
  rw [if_neg (by decide)] at hb
  rw [hb]
  refine LResY.mk [0,1,2] ?_
  simp only [mvcgen_simp,method_specs_simp,seval,hL,hM,obN,obS,encEv]
end
end Go.Proofs.YtlgeggpcnbbjdaaGreat
end
section
namespace Go.Proofs.YtlgeggpcnbbjdaaGreat
open Go.Pm
open Go.Gm (Ev Gr LtD ltD StD srtD)
theorem lookD_ne {β : Type} : ∀ (l : List (Int × β)) (k k' : Int) (v d : β),k' ≠ k → lookD (putK l k v) k' d = lookD l k' d
 | [],k,k',v,d,h=>by simp [putK,lookD,h]
 | p :: l,k,k',v,d,h=>by
   simp only [putK]
   cases hb : k == p.1 with
   | true =>
    have e : k = p.1:=by simpa using hb
    have h2 : (k' == p.1) = false:=by rw [← e]; simpa using h
    simp only [if_true,lookD,YL,h2]
   | false =>
    have ih:=lookD_ne l k k' v d h
    simp only [lookD] at ih
    simp only [Yj,if_false,lookD,YL]
    cases k' == p.1
    ·exact ih
    ·rfl
theorem lookD_put {β : Type} (l : List (Int × β)) (k k' : Int) (v d : β) : lookD (putK l k v) k' d = if k' = k then v else lookD l k' d:=by
 split
 ·rename_i h; rw [h]; exact lookD_putK l k v d
 ·rename_i h; exact lookD_ne l k k' v d h
theorem putI_mem {xs : List Ent} {x y : Ent} (h : y ∈ putI xs x) : y ∈ xs ∨ y = x:=by
 unfold putI at h
 split at h
 ·split at h
  ·rcases ZG.1 h with h | h
   ·exact .inl (Yl h)
   ·exact .inl (YO h)
  ·exact .inl h
 ·split at h
  ·exact List.mem_or_eq_of_mem_set h
  ·rcases ZG.1 h with h | h
   ·exact .inl (Yl h)
   ·rcases Zz.1 h with h | h
    ·exact .inr h
    ·exact .inl (YO h)
theorem entOf_iff {g : Gr} {x : Ent} (h : GG g) : entOf g x = true ↔ ∃ e ∈ g.events,entE e = x:=by
 unfold entOf
 cases hh : atE g.events x.id with
 | none =>
  simp only [Option.isSome_none,Bool.false_and,Yj,false_iff,not_exists,not_and]
  rintro e he rfl
  have:=at_mem h.srt he
  rw [show (entE e).id = e.id from rfl] at hh
  rw [hh] at this; cases this
 | some e =>
  have h1:=Yw hh
  have h2 : e.id = x.id:=by have:=List.find?_some hh; simpa using this
  simp only [Wj,Bool.true_and,Yf,ZR,beq_iff_eq]
  constructor
  ·rintro ⟨h3,h4⟩
   refine ⟨e,h1,?_⟩
   obtain ⟨a,b,c⟩:=x
   simp only at h2 h3 h4
   unfold entE
   rw [h2,h3,h4]
  ·rintro ⟨e',he',rfl⟩
   have h3:=at_mem h.srt he'
   rw [show (entE e').id = e'.id from rfl,h3] at hh
   injection hh with hh
   subst hh
   exact ⟨rfl,rfl⟩
structure SG (g : Gr) (s : List Ent) : Prop where
 srt : s.Pairwise ltE
 has : ∀ x ∈ s,entOf g x = true
theorem ltE_ne {x y : Ent} (h : ltE x y) : x ≠ y:=fun e=>by subst e; unfold ltE at h; omega
theorem SG.ids {g : Gr} {s : List Ent} (h : GG g) (hs : SG g s) : (s.map (·.id)).Nodup:=by
 refine Yn.2 ?_
 refine List.Pairwise.imp_of_mem (fun {x y} hx hy hlt=>?_) hs.srt
 intro e
 obtain ⟨e1,he1,h1⟩:=(entOf_iff h).1 (hs.has x hx)
 obtain ⟨e2,he2,h2⟩:=(entOf_iff h).1 (hs.has y hy)
 have hid : e1.id = e2.id:=by
  have a1 : (entE e1).id = x.id:=by rw [h1]
  have a2 : (entE e2).id = y.id:=by rw [h2]
  exact a1.trans (e.trans a2.symm)
 have:=at_mem h.srt he1
 rw [hid,at_mem h.srt he2] at this
 injection this with this
 subst this
 exact ltE_ne hlt (h1.symm.trans h2)
theorem SG.len {g : Gr} {s : List Ent} (h : GG g) (hs : SG g s) : s.length ≤ 60:=by
 have h1:=nodup_len (SG.ids h hs) (m:=g.events.map (·.id)) (fun z hz=>by
  obtain ⟨x,hx,rfl⟩:=ZQ.1 hz
  obtain ⟨e,he,h1⟩:=(entOf_iff h).1 (hs.has x hx)
  exact ZQ.2 ⟨e,he,by rw [← h1]; rfl⟩)
 rw [Zi,Zi] at h1
 have:=h.n
 omega
theorem SG.nil (g : Gr) : SG g []:=⟨List.Pairwise.nil,fun x hx=>by cases hx⟩
theorem SG.put {g : Gr} {s : List Ent} (h : GG g) (hs : SG g s) {e : Ev} (he : e ∈ g.events) : SG g (putI s (entE e)) :=
 ⟨(put_same s (entE e) hs.srt).2,fun y hy=>(putI_mem hy).elim (hs.has y) fun e1=>by rw [e1]; exact (entOf_iff h).2 ⟨e,he,rfl⟩⟩
theorem SL.of {g : Gr} {l : List (List Ent)} (h : GG g) (hn : l.length ≤ 60) (hs : ∀ s ∈ l,SG g s) : SL g l :=
 ⟨hn,fun s hm=>Yy (SG.len h (hs s hm)) (by omega),fun s hm=>(hs s hm).srt,fun s hm=>(hs s hm).has⟩
theorem othE_in {g : Gr} {l : List (List Ent)} (hl : ∀ s ∈ l,∀ x ∈ s,entOf g x = true) : ∀ e ∈ othE g l,e ∈ g.events:=fun e he=>by
 obtain ⟨z,hz,rfl⟩:=ZQ.1 he
 obtain ⟨_,x,hx,rfl⟩:=(othI_spec l.flatten (idsM (com l))).2 z hz
 obtain ⟨s,hs,hxs⟩:=List.mem_flatten.1 hx
 have h1:=hl s hs x hxs
 unfold evOf
 unfold entOf at h1
 cases hh : atE g.events x.id with
 | none=>rw [hh] at h1; simp at h1
 | some e=>exact Yw hh
theorem foldR_SG {g : Gr} (h : GG g) : ∀ (L : List Ev) {u : List Ent},(∀ e ∈ L,e ∈ g.events) → SG g u → SG g (L.foldl (stepR g) u)
 | [],u,_,hu=>hu
 | e :: L,u,hL,hu=>by
   rw [YP]
   refine foldR_SG h L (fun e he=>hL e (ZO _ he)) ?_
   unfold stepR
   split
   ·exact SG.put h hu (hL e Zv)
   ·exact hu
theorem resI_SG {g : Gr} {D : List (Int × Int)} {l : List (List Ent)} (h : GG g) (hs : ∀ s ∈ l,SG g s) : SG g (resI g D l):=by
 have hc : SG g (com l):=by
  cases l with
  | nil=>exact SG.nil g
  | cons s l =>
   have h1:=hs s Zv
   exact ⟨h1.srt.sublist Yp,fun x hx=>h1.has x (Yo.1 hx).1⟩
 exact foldR_SG h _ (fun e he=>othE_in (fun s hm=>(hs s hm).has) e ((Yx _ _).subset he)) hc
def evsO (g : Gr) : List Ev:=(orderE g.events).map (evOf g)
def hsN (g : Gr) (D : List (Int × Int)) (L : List Ev) : Hs:=L.foldl (addH g) ⟨D,[],[],[]⟩
theorem hsN_snoc (g : Gr) (D : List (Int × Int)) (L : List Ev) (e : Ev) : hsN g D (L ++ [e]) = addH g (hsN g D L) e:=by unfold hsN; rw [Yk]; rfl
theorem hsN_D (g : Gr) (D : List (Int × Int)) : ∀ (L : List Ev) (x : Hs),(L.foldl (addH g) x).D = x.D
 | [],x=>rfl
 | e :: L,x=>by rw [YP,hsN_D g D L]; rfl
theorem order_place {g : Gr} (h : GG g) {i : Nat} {id : Int} (hi : (orderE g.events)[i]? = some id) : ∃ (k : Nat) (e : Ev),(srtD (dpl (Gm.depthsE g.events)) (rangeI g.events.length))[i]? = some (k : Int) ∧ g.events[k]? = some e ∧ e.id = id ∧ evOf g id = e ∧ e ∈ g.events:=by
 unfold orderE at hi
 rw [Zy] at hi
 obtain ⟨x,hx,rfl⟩:=Wl.1 hi
 obtain ⟨k,hk,rfl⟩:=rangeI_mem.1 ((Gm.srtD_perm _ _).subset (Zn hx))
 obtain ⟨e,he⟩ : ∃ e,g.events[k]? = some e:=⟨_,Zc hk⟩
 have hid : idAtP g.events (k : Int) = e.id:=by unfold idAtP; rw [ZB,he]
 have hm:=Zn he
 refine ⟨k,e,hx,he,hid.symm,?_,hm⟩
 rw [hid]
 unfold evOf
 rw [at_mem h.srt hm]; rfl
theorem evsO_len (g : Gr) : (evsO g).length = g.events.length:=by unfold evsO; rw [Zi,orderE_len]
theorem evsO_all {g : Gr} (h : GG g) : ∀ e ∈ g.events,e ∈ evsO g:=fun e he=>by
 obtain ⟨k,hk⟩:=Wm he
 have hkl:=(ZW.1 hk).1
 have h1 : (k : Int) ∈ srtD (dpl (Gm.depthsE g.events)) (rangeI g.events.length):=(Gm.srtD_perm _ _).mem_iff.2 (rangeI_mem.2 ⟨k,hkl,rfl⟩)
 refine ZQ.2 ⟨e.id,ZQ.2 ⟨(k : Int),h1,?_⟩,?_⟩
 ·unfold idAtP; rw [ZB,hk]
 ·unfold evOf; rw [at_mem h.srt he]; rfl
theorem order_prev {g : Gr} (h : GG g) {i : Nat} {e : Ev} (hi : (evsO g)[i]? = some e) : ∀ p ∈ e.prev,p ∈ (orderE g.events).take i:=by
 intro p hp
 unfold evsO at hi
 rw [Zy] at hi
 obtain ⟨id,hid,he⟩:=Wl.1 hi
 obtain ⟨k,e',hk,hke,_,h1,h2⟩:=order_place h hid
 rw [h1] at he
 subst he
 have hin:=h.ain e' h2
 rw [Gm.allIn,ZS] at hin
 have hpi:=hin p hp
 obtain ⟨ep,hep,hepi⟩:=Gm.fid_get hpi
 have hpl:=Gm.fid_lt hpi
 have hdl:=(Gm.depths_ok g.events).len
 have hkl:=(ZW.1 hke).1
 have hdk : 0 < (Gm.depthsE g.events).getD k 0:=by
  rw [ZE,Zc (by omega)]
  have:=h.pos _ (YE (l:=Gm.depthsE g.events) (n:=k) (by omega))
  simp only [Yf]
  omega
 obtain ⟨_,hlt⟩:=Gm.depths_ltP g.events k e' hke hdk p hp
 have hm : ((Gm.fidE g.events p : Nat) : Int) ∈ srtD (dpl (Gm.depthsE g.events)) (rangeI g.events.length):=(Gm.srtD_perm _ _).mem_iff.2 (rangeI_mem.2 ⟨_,hpl,rfl⟩)
 obtain ⟨j,hj⟩:=Wm hm
 have hLt : LtD (dpl (Gm.depthsE g.events)) ((Gm.fidE g.events p : Nat) : Int) (k : Int):=by
  rw [Gm.ltD_iff]
  refine .inl ?_
  unfold dpl
  rw [ZB,ZB]
  exact hlt
 have hji : j < i:=by
  rcases Wh j i with h3 | h3 | h3
  ·exact h3
  ·exfalso
   subst h3
   rw [hk] at hj
   injection hj with hj
   rw [hj] at hLt
   exact (Gm.ltD_str _).irr _ hLt
  ·exfalso
   have h4:=Gm.pw_get (Gm.srtD_sorted (Gm.StD.nodup (rangeI_std (dpl (Gm.depthsE g.events)) g.events.length))) h3 hk hj
   exact (Gm.ltD_str _).irr _ ((Gm.ltD_str _).tr _ _ _ hLt h4)
 refine Zn (i:=j) ?_
 rw [List.getElem?_take_of_lt hji]
 unfold orderE
 rw [Zy,hj]
 simp only [YQ,idAtP,ZB,hep,hepi]
structure HI (g : Gr) (ids : List Int) (x : Hs) : Prop where
 A : ∀ id ∈ ids,∃ s,lookD x.A id none = some s ∧ SG g s
 B : ∀ id ∈ ids,∃ s,lookD x.B id none = some s ∧ SG g s
theorem HI.sts {g : Gr} {ids : List Int} {x : Hs} (h : HI g ids x) {l : List Int} (hl : ∀ p ∈ l,p ∈ ids) : (∀ p ∈ l,(lookD x.A p none).isSome = true) ∧ ∀ s ∈ stsA x.A l,SG g s:=by
 refine ⟨fun p hp=>?_,fun s hs=>?_⟩
 ·obtain ⟨s,h1,_⟩:=h.A p (hl p hp)
  rw [h1]; rfl
 ·obtain ⟨p,hp,rfl⟩:=ZQ.1 hs
  obtain ⟨s,h1,h2⟩:=h.A p (hl p hp)
  rw [h1]; exact h2
theorem stsA_len (A : List (Int × Option (List Ent))) (l : List Int) : (stsA A l).length = l.length:=Zi _
theorem HI.add {g : Gr} {ids : List Int} {x : Hs} (hg : GG g) (h : HI g ids x) {e : Ev} (he : e ∈ g.events) (hp : ∀ p ∈ e.prev,p ∈ ids) : HI g (ids ++ [e.id]) (addH g x e):=by
 obtain ⟨h1,h2⟩:=h.sts hp
 have hr : SG g (resI g x.D (stsA x.A e.prev)):=resI_SG hg h2
 have hb : SG g (behH g (resI g x.D (stsA x.A e.prev)) e):=by
  unfold behH
  split
  ·exact SG.put hg hr he
  ·exact hr
 refine ⟨fun id hid=>?_,fun id hid=>?_⟩
 ·show ∃ s,lookD (putK x.A e.id (some (behH g (resI g x.D (stsA x.A e.prev)) e))) id none = some s ∧ SG g s
  rw [lookD_put]
  split
  ·exact ⟨_,rfl,hb⟩
  ·rename_i hne
   exact h.A id ((ZG.1 hid).resolve_right (by simpa using hne))
 ·show ∃ s,lookD (putK x.B e.id (some (resI g x.D (stsA x.A e.prev)))) id none = some s ∧ SG g s
  rw [lookD_put]
  split
  ·exact ⟨_,rfl,hr⟩
  ·rename_i hne
   exact h.B id ((ZG.1 hid).resolve_right (by simpa using hne))
theorem HI.at_ {g : Gr} (hg : GG g) (D : List (Int × Int)) : ∀ i,i ≤ g.events.length → HI g ((orderE g.events).take i) (hsN g D ((evsO g).take i))
 | 0,_=>⟨fun id h=>by simp at h,fun id h=>by simp at h⟩
 | i + 1,hi=>by
   have ih:=HI.at_ hg D i (by omega)
   obtain ⟨id,hid⟩ : ∃ id,(orderE g.events)[i]? = some id:=⟨_,Zc (by rw [orderE_len]; omega)⟩
   obtain ⟨k,e,hk,hke,h0,h1,h2⟩:=order_place hg hid
   have hev : (evsO g)[i]? = some e:=by unfold evsO; rw [Zy,hid,YQ,h1]
   rw [ZA,ZA,hid,hev,ZC,ZC,hsN_snoc,← h0]
   exact ih.add hg h2 (order_prev hg hev)
end Go.Proofs.YtlgeggpcnbbjdaaGreat
end
section
namespace Go.Proofs.YtlgeggpcnbbjdaaGreat
open Go.Pm
open Go.Gm (Ev Gr)
def deepV : Nat → List Ob → V → V
 | 0,_,x=>x
 | n + 1,m,.fptr cs off=>.fptr (cs.map (deepV n m)) off
 | _ + 1,m,x=>conv m x
theorem RC_map {c : Cx} {b : Nat} {f : V → V} (hf : ∀ x v,RV c x v → RV c (f x) v) : ∀ {cs : List V} {o : Nat},RC c b o cs → RC c b o (cs.map f)
 | [],_,_=>trivial
 | _ :: _,_,⟨⟨u,e,k⟩,k2⟩=>⟨⟨u,e,hf _ u k⟩,RC_map hf k2⟩
theorem deepV_sound {w : World} {Zo : Nat → Prop} {m : List Ob} {β : List Lc} (M : Mem w Zo m β) : ∀ (n : Nat) (x : V) (v : Value),RV (cx w Zo m β) x v → RV (cx w Zo m β) (deepV n m x) v
 | 0,x,v,h=>h
 | n + 1,x,v,h=>by
   have hc : ∀ y : V,RV (cx w Zo m β) y v → RV (cx w Zo m β) (conv m y) v:=fun y hy=>by
    obtain ⟨u,us,e,k,_⟩:=convs_sound M [y] [v] ⟨v,[],rfl,hy,rfl⟩
    injection e with e1 _
    rw [e1]; exact k
   cases x <;> first | exact hc _ h | skip
   obtain ⟨b,e,hf,k⟩:=h
   exact ⟨b,e,hf,RC_map (deepV_sound M n) k⟩
theorem RVs_map {c : Cx} {f : V → V} (hf : ∀ x v,RV c x v → RV c (f x) v) : ∀ {xs : List V} {us : List Value},RVs c xs us → RVs c (xs.map f) us
 | [],_,h=>h
 | _ :: _,_,⟨u,us',e,h1,h2⟩=>⟨u,us',e,hf _ u h1,RVs_map hf h2⟩
theorem sw_deep {P : Program} {c : Code} {st : St} {Q : Exit → St → Prop} (n : Nat) (h : Go.Pm.SW P c ⟨st.t.map (deepV n st.m),st.m,st.g⟩ Q) : Go.Pm.SW P c st Q:=by
 intro w0 E Zo gh a w ⟨β,M,h1,h2,h3,h4,h5⟩
 exact h w0 E Zo gh a w ⟨β,M,h1,h2,h3,RVs_map (deepV_sound M n) h4,h5⟩
def mpFr (m : List Ob) (q : Nat) : Option (List V × List V):=match m[q]? with
 | some (.mp false ks vs)=>some (ks,vs)
 | _=>none
@[mvcgen_simp,method_specs_simp] theorem mpFr_f {ks vs : List V} {m : List Ob} : mpFr (.mp false ks vs :: m) 0 = some (ks,vs):=nr rfl
@[mvcgen_simp,method_specs_simp] theorem mpFr_t {ks vs : List V} {m : List Ob} : mpFr (.mp true ks vs :: m) 0 = none:=nr rfl
@[mvcgen_simp,method_specs_simp] theorem mpFr_s {ob : Ob} {m : List Ob} {q : Nat} : mpFr (ob :: m) (q + 1) = mpFr m q:=by simp [mpFr]
def convM (q : Nat) : Option (List V × List V) → V
 | some p=>.fmap p.1 p.2
 | none=>.map q
@[mvcgen_simp,method_specs_simp] theorem convM_s {q : Nat} {ks vs : List V} : convM q (some (ks,vs)) = .fmap ks vs:=nr rfl
@[mvcgen_simp,method_specs_simp] theorem convM_n {q : Nat} : convM q none = .map q:=nr rfl
@[mvcgen_simp,method_specs_simp] theorem conv_mapF {m : List Ob} {q : Nat} : conv m (.map q) = convM q (mpFr m q):=by
 simp only [conv,mpFr]
 split <;> rename_i h
 ·rw [h]; rfl
 ·cases hm : m[q]? with
  | none=>rfl
  | some ob =>
   cases ob with
   | mp lv ks vs =>
    cases lv
    ·exact absurd hm (h _ _)
    ·rfl
   | _=>rfl
@[mvcgen_simp,method_specs_simp] theorem still_mp {lv : Bool} {ks vs : List V} : (Ob.mp lv ks vs).still = .mp false ks vs:=nr rfl
section
variable {n : Nat} {m : List Ob}
@[mvcgen_simp,method_specs_simp] theorem deep_fptr {cs : List V} {off : Nat} : deepV (n + 1) m (.fptr cs off) = .fptr (cs.map (deepV n m)) off:=nr rfl
@[mvcgen_simp,method_specs_simp] theorem deep_junk : deepV (n + 1) m .junk = .junk:=nr rfl
@[mvcgen_simp,method_specs_simp] theorem deep_int {k : IntKind} {x : Int} : deepV (n + 1) m (.int k x) = .int k x:=nr rfl
@[mvcgen_simp,method_specs_simp] theorem deep_bool {b : Bool} : deepV (n + 1) m (.bool b) = .bool b:=nr rfl
@[mvcgen_simp,method_specs_simp] theorem deep_sl {sz : Nat} {xs : List (List V)} : deepV (n + 1) m (.sl sz xs) = .sl sz xs:=nr rfl
@[mvcgen_simp,method_specs_simp] theorem deep_map {q : Nat} : deepV (n + 1) m (.map q) = conv m (.map q):=nr rfl
@[mvcgen_simp,method_specs_simp] theorem deep_fmap {ks vs : List V} : deepV (n + 1) m (.fmap ks vs) = .fmap ks vs:=nr rfl
@[mvcgen_simp,method_specs_simp] theorem deep_ptr {q o : Nat} : deepV (n + 1) m (.ptr q o) = conv m (.ptr q o):=nr rfl
@[mvcgen_simp,method_specs_simp] theorem deep_ar {q o l : Nat} : deepV (n + 1) m (.ar q o l) = conv m (.ar q o l):=nr rfl
end
theorem mpI_nil1 {β : Type} {kd : IntKind} {f : β → V} : (mpI kd f []).1 = []:=nr rfl
theorem mpI_nil2 {β : Type} {kd : IntKind} {f : β → V} : (mpI kd f []).2 = []:=nr rfl
theorem map_r8 {f : V → V} {a b c d e f' g h : V} {l : List V} : List.map f (r8 a b c d e f' g h l) = r8 (f a) (f b) (f c) (f d) (f e) (f f') (f g) (f h) (List.map f l):=rfl
def hF (g : Gr) (x : Hs) : V:=.fptr [.int .i64 g.room,.sl 9 (g.events.map encEv),.sl 9 (g.parked.map encEv),.fmap (mpI .i64 (V.int .i64) x.D).1 (mpI .i64 (V.int .i64) x.D).2,.fmap (mpI .i64 fS x.B).1 (mpI .i64 fS x.B).2,.fmap (mpI .i64 fS x.A).1 (mpI .i64 fS x.A).2,.fmap (mpI .i64 (V.int .i64) x.R).1 (mpI .i64 (V.int .i64) x.R).2] 0
theorem hF_ref (ok : Nat → Prop) (g : Gr) (x : Hs) : Ref ok (hF g x):=by
 simp only [hF,Refs,Ref,encEv_refs,mpI_refs1,mpN_refs,mpS_refs,and_self]
def depM (evs : List Ev) (dl : List Int) (i : Nat) : List (Int × Int):=((evs.zip dl).take i).foldl (fun m p=>putK m p.1.id p.2) []
section
variable {P : Program} [Is P]
theorem c_order (g : Gr) (h : GG g) : Con P 71 [.agg (encGr g)] (.sl 1 ((orderE g.events).map encI)):=by
 have h1:=(n_order (P:=P) g h.ok.1 h.srt h.ain).con (by rw [← orderE_len g.events]; simp only [method_specs_simp,Zm,Zi,Zg])
 have e : convR [Ob.arr true 1 ((orderE g.events).map encI)] (.ar 0 0 g.events.length) = .sl 1 ((orderE g.events).map encI):=by
  rw [← orderE_len g.events]
  simp only [method_specs_simp,Zm,Zi,Zg]
 rwa [e] at h1
theorem c_newHistory (g : Gr) (h : GG g) : Con P 49 [.agg (encGr g)] (hF g (hsN g (depM g.events (Gm.depthsE g.events) g.events.length) (evsO g))):=by
 refine Con.ofS (n:=61) (rs:=[.tmp 2]) (Is.fn Tryz.func49) rfl (Is.call Tryz.call49) Tryz.results49 Tryz.ntmps49 (hF_ref _ g _) ?_
 refine SW.seq (CW.sound ?_)
 simp only [method_specs_simp,seval,encGr]
 refine SW.seq (CW.sound ?_)
 simp only [method_specs_simp,seval,encGr]
 refine SW.seq (CW.sound ?_)
 simp only [method_specs_simp,seval,encGr]
 refine clY.con (c_depths g h.ok.1 h.srt h.ain) (by simp only [method_specs_simp,encGr]) ?_
 obtain ⟨dl,hdl⟩ : ∃ dl,dl = Gm.depthsE g.events:=⟨_,rfl⟩
 have hdn : dl.length = g.events.length:=by rw [hdl]; exact (Gm.depths_ok g.events).len
 rw [← hdl]
 simp only [method_specs_simp,seval,encGr]
 have h60:=h.n
 refine SW.seq (CW.sound ?_)
 simp only [method_specs_simp,seval,encGr]
 refine SW.while (A:=Nat) (fun i=>⟨pad 61 [.junk,.ptr 0 0,.junk,.ptr 5 0,.sl 1 (dl.map encI),.junk,.junk,.junk,.junk,.junk,.junk,.junk,.junk,.junk,.junk,.junk,.junk,.junk,.junk,.junk,.junk,.junk,.junk,.junk,.junk,.sl 9 (g.events.map encEv),.int .i64 g.events.length,.int .i64 i],[.box true (encGr g),obN (depM g.events dl i),.mp true [] [],.mp true [] [],.mp true [] [],.box true [.int .i64 g.room,.sl 9 (g.events.map encEv),.sl 9 (g.parked.map encEv),.map 1,.map 2,.map 3,.map 4]],[]⟩) (fun i=>g.events.length - i) (fun i=>i ≤ g.events.length) 0 [0,1,2,3,4,5] (Zj _) ?_ ?_
 ·have h0 : obN (depM g.events dl 0) = .mp true [] []:=rfl
  rw [h0]
  simp only [mvcgen_simp,method_specs_simp,seval,encGr]
 ·intro i hi
  have w1 : IntKind.i64.wrap ((i : Int) + 1) = ((i + 1 : Nat) : Int):=wadd1 i (by omega)
  refine CW.sound ?_
  simp only [method_specs_simp,seval,encGr,obN]
  refine gB_split (fun h1=>?_) (fun h1=>?_)
  ·simp only [decide_eq_true_eq,Za] at h1
   obtain ⟨e,he⟩ : ∃ e,g.events[i]? = some e:=⟨_,Zc h1⟩
   obtain ⟨d,hd⟩ : ∃ d,dl[i]? = some d:=⟨_,Zc (by omega)⟩
   have hnx : depM g.events dl (i + 1) = putK (depM g.events dl i) e.id d:=by
    have hz : (g.events.zip dl)[i]? = some (e,d):=by rw [Wn]; exact ⟨he,hd⟩
    unfold depM
    rw [ZA,hz,ZC,Yk]; rfl
   simp only [method_specs_simp,seval,encGr,he,encEv]
   refine ⟨by omega,by omega,by kernel_rfl,?_⟩
   simp only [method_specs_simp,seval,encGr,hd,encI]
   refine ⟨by omega,by omega,?_⟩
   refine muY.ints (V.int .i64) (depM g.events dl i) d 0 rfl (by simp only [method_specs_simp]) ?_
   rw [← hnx]
   simp only [method_specs_simp,seval,encGr]
   refine Again.mk (i + 1) [0,1,2,3,4,5] h1 (Zl h1 (Zk _)) ?_
   simp only [mvcgen_simp,method_specs_simp,seval,encGr,w1,obN]
  ·have hi2 : i = g.events.length:=by simp only [decide_eq_false_iff_not,Zd,Za] at h1; omega
   obtain ⟨D,hD⟩ : ∃ D,D = depM g.events dl i:=⟨_,rfl⟩
   rw [← hD]
   refine SW.freeze [0,1,5] ?_
   simp only [mvcgen_simp,method_specs_simp,seval,encGr,convs_r8j,conv_junkj]
   refine sw_deep 2 ?_
   simp only [mvcgen_simp,method_specs_simp,seval,encGr,map_r8,Zp,Ya]
   refine SW.wk [2,3,4] (st':=⟨pad 61 [.junk,.fptr (encGr g) 0,.junk,hL g ⟨D,[],[],[]⟩],hM ⟨D,[],[],[]⟩,[]⟩) ?_ ?_
   ·simp only [mvcgen_simp,method_specs_simp,seval,encGr,hL,hM,obN,obS,mpI_nil1,mpI_nil2]
   refine SW.seq (CW.sound ?_)
   simp only [method_specs_simp,seval,encGr]
   refine clY.con (c_order g h) (by simp only [method_specs_simp,encGr]) ?_
   simp only [method_specs_simp,seval,encGr]
   refine SW.while (A:=Nat) (fun j=>⟨pad 61 [.junk,.fptr (encGr g) 0,.junk,hL g (hsN g D ((evsO g).take j)),.junk,.junk,.junk,.junk,.junk,.junk,.junk,.junk,.junk,.junk,.junk,.junk,.junk,.junk,.junk,.junk,.junk,.junk,.junk,.junk,.junk,.junk,.junk,.junk,.junk,.junk,.junk,.junk,.junk,.junk,.junk,.junk,.junk,.junk,.junk,.junk,.junk,.junk,.junk,.junk,.sl 1 ((orderE g.events).map encI),.int .i64 g.events.length,.int .i64 j],hM (hsN g D ((evsO g).take j)),[]⟩) (fun j=>g.events.length - j) (fun j=>j ≤ g.events.length) 0 [0,1,2] (Zj _) ?_ ?_
   ·have h0 : hsN g D ((evsO g).take 0) = ⟨D,[],[],[]⟩:=rfl
    rw [h0]
    simp only [mvcgen_simp,method_specs_simp,seval,encGr,hL,hM,obN,obS,mpI_nil1,mpI_nil2,orderE_len]
   ·intro j hj
    have w2 : IntKind.i64.wrap ((j : Int) + 1) = ((j + 1 : Nat) : Int):=wadd1 j (by omega)
    refine CW.sound ?_
    simp only [method_specs_simp,seval,encGr]
    refine gB_split (fun h2=>?_) (fun h2=>?_)
    ·simp only [decide_eq_true_eq,Za] at h2
     obtain ⟨id,hid⟩ : ∃ id,(orderE g.events)[j]? = some id:=⟨_,Zc (by rw [orderE_len]; exact h2)⟩
     obtain ⟨k,e,hk,hke,h3,h4,h5⟩:=order_place h hid
     have hev : (evsO g)[j]? = some e:=by unfold evsO; rw [Zy,hid,YQ,h4]
     have hat : atE g.events id = some e:=by rw [← h3]; exact at_mem h.srt h5
     have hnx : hsN g D ((evsO g).take (j + 1)) = addH g (hsN g D ((evsO g).take j)) e:=by rw [ZA,hev,ZC,hsN_snoc]
     obtain ⟨hi1,hi2⟩:=(HI.at_ h D j hj).sts (order_prev h hev)
     have hfour:=h.four e h5
     have hsl : SL g (stsA (hsN g D ((evsO g).take j)).A e.prev):=SL.of h (by rw [stsA_len]; omega) hi2
     obtain ⟨x,hx⟩ : ∃ x,x = hsN g D ((evsO g).take j):=⟨_,rfl⟩
     rw [← hx] at hi1 hsl hnx ⊢
     simp only [method_specs_simp,seval,encGr,hL,hM,obN,obS,encEv,hid,encI,orderE_len]
     refine ⟨by omega,by omega,?_⟩
     refine clY.con (c_at g id h.hx h.srt) (by simp only [method_specs_simp,encGr]) ?_
     rw [hat]
     simp only [method_specs_simp,seval,encGr,hL,hM,obN,obS,encEv,Yf,Wj]
     refine clY.live [0,1,2] [] (n_add g x e h h5 hi1 hsl) ?_ (by simp [hM]) ?_
     ·simp only [mvcgen_simp,method_specs_simp,seval,encGr,hL,hM,obN,obS,encEv]
     simp only [method_specs_simp,seval,encGr,hL,hM,obN,obS,encEv]
     refine Again.mk (j + 1) [0,1,2] h2 (Zl h2 (Zk _)) ?_
     rw [hnx]
     have hD2 : (addH g x e).D = x.D:=rfl
     simp only [mvcgen_simp,method_specs_simp,seval,encGr,hL,hM,obN,obS,encEv,w2,hD2]
    ·have hj2 : j = g.events.length:=by simp only [decide_eq_false_iff_not,Zd,Za] at h2; omega
     have hev : (evsO g).take j = evsO g:=Zm (by rw [evsO_len,hj2]; exact Zg _)
     rw [hev]
     obtain ⟨x,hx⟩ : ∃ x,x = hsN g D (evsO g):=⟨_,rfl⟩
     have hfin : hsN g (depM g.events dl g.events.length) (evsO g) = x:=by rw [hx,hD,hi2]
     rw [hfin,← hx]
     refine SW.freeze [0,1,2] ?_
     simp only [mvcgen_simp,method_specs_simp,seval,encGr,hL,hM,obN,obS,encEv,convs_r8j,conv_junkj]
     refine sw_deep 2 ?_
     simp only [mvcgen_simp,method_specs_simp,seval,encGr,hL,hM,obN,obS,encEv,map_r8,Zp,Ya]
     refine CW.sound ?_
     simp only [method_specs_simp,seval,encGr,hL,hM,obN,obS,encEv,hF]
end
end Go.Proofs.YtlgeggpcnbbjdaaGreat
end
section
section
namespace Go.Pm
open Go.RowKit
inductive RdB {α : Type} (B : Nat → Prop) : Sem α → Prop
 | pure (a : α) : RdB B (.pure a)
 | load {m : Mode} {a : Addr} {k : Value → Sem α} : B a.block → (∀ v,RdB B (k v)) → RdB B (.load m a k)
 | shape {r : Nat} {k : Option (TypeId × Nat) → Sem α} : B r → (∀ v,RdB B (k v)) → RdB B (.shape r k)
 | program {k : Program → Sem α} : (∀ p,RdB B (k p)) → RdB B (.program k)
 | obj {r : Nat} {k : Obj → Sem α} : B r → (∀ o,RdB B (k o)) → RdB B (.getObj r k)
 | halt (h : Halt) : RdB B (.halt h)
 | never {s : Sem α} (h : ∀ (P : Program) (w : World) (x : α) (w1 : World),s.run P w ≠ .ok x w1) : RdB B s
theorem RdB.bind {α β : Type} {B : Nat → Prop} {s : Sem α} {f : α → Sem β} (hs : RdB B s) (hf : ∀ a,RdB B (f a)) : RdB B (s.bind f):=by
 induction hs with
 | pure a=>exact hf a
 | load hb _ ih=>exact .load hb fun v=>ih v
 | shape hb _ ih=>exact .shape hb fun v=>ih v
 | program _ ih=>exact .program fun v=>ih v
 | obj hb _ ih=>exact .obj hb fun v=>ih v
 | halt h=>exact .halt h
 | @never s h =>
  refine .never fun P w x w1 e=>?_
  have e : (s >>= f).run P w = .ok x w1:=e
  rw [Sem.run_bind] at e
  cases hs : s.run P w with
  | ok y w2=>exact h P w y w2 hs
  | halt y w2=>rw [hs] at e; cases e
def SameB (w w' : World) (b : Nat) : Prop:=w'.heap[b]? = w.heap[b]? ∧ ∃ us e fr,w.heap[b]? = some (.cells us e fr)
theorem RdB.run {α : Type} {B : Nat → Prop} {s : Sem α} (hs : RdB B s) {P : Program} {w w' w1 : World} {x : α} (hk : ∀ b,B b → SameB w w' b) (h : s.run P w = .ok x w1) : w1 = w ∧ s.run P w' = .ok x w':=by
 induction hs with
 | pure a =>
  simp only [Sem.run] at h ⊢
  injection h with h1 h2
  exact ⟨h2.symm,by rw [h1]⟩
 | @load m a k hb _ ih =>
  obtain ⟨e1,us,el,fr,e2⟩:=hk _ hb
  have hc : w'.cell? a = w.cell? a:=by unfold World.cell?; rw [e1]
  simp only [Sem.run] at h ⊢
  rw [hc]
  cases hv : w.cell? a with
  | some v=>rw [hv] at h; exact ih v h
  | none =>
   exfalso
   rw [hv] at h
   simp only at h
   unfold World.farLoad at h
   rw [e2] at h
   cases h
 | @shape r k hb _ ih =>
  simp only [Sem.run] at h ⊢
  have : w'.shape? r = w.shape? r:=by unfold World.shape?; rw [(hk _ hb).1]
  rw [this]
  exact ih _ h
 | @program k _ ih =>
  simp only [Sem.run] at h ⊢
  exact ih _ h
 | @obj r k hb _ ih =>
  simp only [Sem.run] at h ⊢
  rw [(hk _ hb).1]
  split at h
  ·cases h
  ·rename_i o hn ho
   exact ih _ h
  ·cases h
 | halt e=>simp only [Sem.run] at h; cases h
 | never hn=>exact absurd h (hn _ _ _ _)
section
variable {B : Nat → Prop}
theorem rb_program : RdB B program:=.program fun p=>.pure p
theorem rb_typeInfo (t : TypeId) : RdB B (typeInfo t):=rb_program.bind fun p=>by
 split
 ·exact .pure _
 ·exact .halt _
theorem rb_underlying (t : TypeId) : RdB B (underlying t):=rb_program.bind fun p=>by
 split
 ·exact .pure _
 ·exact .halt _
theorem rb_sizeOf (t : TypeId) : RdB B (sizeOf t):=(rb_typeInfo t).bind fun i=>.pure _
theorem rb_isAgg (t : TypeId) : RdB B (isAgg t):=(rb_underlying t).bind fun d=>by
 split <;> exact .pure _
theorem rb_load {a : Addr} (h : B a.block) : RdB B (load a):=.load h fun v=>.pure v
theorem add_block (a : Addr) (n : Nat) : (a.add n).block = a.block:=by
 unfold Addr.add
 split <;> rfl
theorem rb_loadCells {a : Addr} (h : B a.block) : ∀ (n i : Nat) (acc : Array Value),RdB B (loadCellsFrom a i n acc)
 | 0,i,acc=>.pure _
 | n + 1,i,acc=>(rb_load (by rw [add_block]; exact h)).bind fun v=>rb_loadCells h n (i + 1) _
theorem rb_loadVar (t : TypeId) {a : Addr} (h : B a.block) : RdB B (loadVar t a):=(rb_isAgg t).bind fun b=>by
 cases b
 ·exact rb_load h
 ·exact (rb_sizeOf t).bind fun n=>(rb_loadCells h n 0 #[]).bind fun cs=>.pure _
theorem rb_loadAt (t : TypeId) {a : Addr} (h : B a.block) : RdB B (Instr.loadAt t (.pointer (some a))):=by
 show RdB B (loadVar t a)
 exact rb_loadVar t h
theorem rb_noView {a : Addr} (h : B a.block) : RdB B (noView a):=by
 unfold noView
 refine RdB.bind ?_ fun x=>?_
 ·unfold viewAt
  refine RdB.bind (.shape h fun v=>.pure v) fun y=>?_
  split
  ·exact .pure _
  ·show RdB B (Sem.getObj a.block fun o=>(Sem.pure o).bind _)
   refine .obj h fun o=>?_
   simp only [Sem.bind]
   split <;> exact .pure _
 ·split
  ·exact .halt _
  ·exact .pure _
theorem rb_byteOf {a : Addr} (h : B a.block) : RdB B (byteOf a):=by
 unfold byteOf
 split
 ·exact .pure _
 ·refine rb_program.bind fun p=>(rb_noView h).bind fun _=>?_
  refine RdB.bind (.shape h fun v=>.pure v) fun x=>?_
  split
  ·simp only
   split
   ·exact .pure _
   ·split
    ·exact .pure _
    ·exact .halt _
  ·exact .halt _
theorem rb_fieldPlace {a : Addr} (h : B a.block) (f : Field) : RdB B (fieldPlace a f):=by
 unfold fieldPlace
 refine (rb_sizeOf _).bind fun n=>?_
 split
 ·unfold partAt
  exact (rb_byteOf h).bind fun b=>(rb_byteOf (by first | exact h | (rw [add_block]; exact h))).bind fun b2=>.pure _
 ·exact .pure _
theorem rb_fieldAt (s : TypeId) {a : Addr} (h : B a.block) (i : Nat) : RdB B (Instr.fieldAt s (.pointer (some a)) i):=by
 unfold Instr.fieldAt
 refine (rb_underlying s).bind fun d=>?_
 split
 ·split
  ·exact (rb_fieldPlace h _).bind fun a=>.pure _
  ·exact .halt _
 ·exact .halt _
theorem rb_extract (v : Value) (i : Nat) : RdB B (Instr.extract v i):=by
 unfold Instr.extract
 split
 ·split
  ·exact .pure _
  ·exact .halt _
 ·exact .halt _
theorem rb_asIntOf (v : Value) : RdB B (asIntOf v):=by
 unfold asIntOf
 split
 ·exact .pure _
 ·exact .halt _
 ·exact .halt _
theorem rb_sureAddr (v : Value) : RdB B (Instr.sureAddr v):=by
 unfold Instr.sureAddr
 split
 ·exact .pure _
 ·exact .halt _
theorem never_rt {α : Type} (a b : Int) (s : Bool) (c : BoundsCode) (P : Program) (w : World) (r : α) (w1 : World) : (runtimePanic (.bounds a b s c) : Sem α).run P w ≠ .ok r w1:=fun e=>by
 unfold runtimePanic goPanic at e
 rw [Sem.run_bind] at e
 cases hs : Sem.run P program w with
 | ok y w2=>rw [hs] at e; cases e
 | halt y w2=>rw [hs] at e; cases e
theorem never_bounds {α : Type} (k : IntKind) (x y : Int) (c : BoundsCode) : RdB B (boundsPanic (α:=α) k x y c):=.never fun P w r w1 e=>by
 unfold boundsPanic at e
 simp only at e
 split at e
 ·rw [Sem.run_bind] at e
  cases hs : Sem.run P ((fun x => x == 1) <$> choose (.extern "runtime.boundsError.signed" 2)) w with
  | ok y w2=>rw [hs] at e; exact never_rt _ _ _ _ _ _ _ _ e
  | halt y w2=>rw [hs] at e; cases e
 ·rw [Sem.run_bind] at e
  exact never_rt _ _ _ _ _ _ _ _ e
theorem rb_indexAt (t : TypeId) (x i : Value) : RdB B (Instr.indexAt t x i):=by
 unfold Instr.indexAt
 refine (rb_asIntOf _).bind fun ki=>?_
 refine (rb_underlying t).bind fun d=>?_
 split
 ·refine (rb_sureAddr _).bind fun a=>(RdB.pure _).bind fun z=>?_
  obtain ⟨base,len,elem⟩:=z
  refine (rb_underlying t).bind fun d=>?_
  simp only
  cases base with
  | none=>exact never_bounds _ _ _ _
  | some a =>
   simp only
   split
   ·exact (rb_sizeOf _).bind fun n=>.pure _
   ·split <;> (split <;> first | exact .halt _ | exact never_bounds _ _ _ _)
 ·refine (RdB.pure _).bind fun z=>?_
  obtain ⟨base,len,elem⟩:=z
  refine (rb_underlying t).bind fun d=>?_
  simp only
  cases base with
  | none=>exact never_bounds _ _ _ _
  | some a =>
   simp only
   split
   ·exact (rb_sizeOf _).bind fun n=>.pure _
   ·split <;> (split <;> first | exact .halt _ | exact never_bounds _ _ _ _)
 ·exact .halt _
def lookP (B : Nat → Prop) (ev : Operand → Value) : Op → Prop
 | .move _=>True
 | .extract _ _=>True
 | .indexAddr _ _ _=>True
 | .nilCheck x=>∃ a,ev x = .pointer (some a)
 | .fieldAddr _ x _=>∃ a,ev x = .pointer (some a) ∧ B a.block
 | .load _ x=>∃ a,ev x = .pointer (some a) ∧ B a.block
 | _=>False
theorem lookP_run {P : Program} {o : Oper} {ev : Operand → Value} (hk : lookP B ev o.op) {w w1 w' : World} {x : Next} (hw : ∀ b,B b → SameB w w' b) (h : (execOp ev o).run P w = .ok x w1) : ∃ v,x = .value v ∧ w1 = w ∧ (execOp ev o).run P w' = .ok (.value v) w':=by
 have key : ∀ s : Sem Value,RdB B s → ((do pure (.value (← s)) : Sem Next)).run P w = .ok x w1 → ∃ v,x = .value v ∧ w1 = w ∧ ((do pure (.value (← s)) : Sem Next)).run P w' = .ok (.value v) w':=by
  intro s hs h
  have hr : RdB B (do pure (.value (← s)) : Sem Next):=hs.bind fun v=>.pure _
  obtain ⟨h1,h2⟩:=hr.run hw h
  rw [Sem.run_bind] at h
  cases hv : s.run P w with
  | halt e w2=>rw [hv] at h; cases h
  | ok v w2 =>
   rw [hv,Result.andThen_ok] at h
   simp only [Sem.run_pure] at h
   injection h with h3 h4
   subst h3
   exact ⟨v,rfl,h1,h2⟩
 cases hop : o.op <;> rw [hop] at hk <;> first | (cases hk; done) | skip
 ·rename_i y
  simp only [execOp,hop] at h ⊢
  simp only [Sem.run_pure] at h ⊢
  injection h with h1 h2
  exact ⟨_,h1.symm,h2.symm,rfl⟩
 ·rename_i t y
  obtain ⟨a,e,hb⟩:=hk
  simp only [execOp,hop] at h ⊢
  rw [e] at h ⊢
  exact key _ (rb_loadAt _ hb) h
 ·rename_i y
  obtain ⟨a,e⟩:=hk
  simp only [execOp,hop,e] at h ⊢
  simp only [Sem.run_pure] at h ⊢
  injection h with h1 h2
  exact ⟨_,h1.symm,h2.symm,rfl⟩
 ·rename_i t y i
  obtain ⟨a,e,hb⟩:=hk
  simp only [execOp,hop] at h ⊢
  rw [e] at h ⊢
  exact key _ (rb_fieldAt _ hb _) h
 ·simp only [execOp,hop] at h ⊢
  exact key _ (rb_indexAt _ _ _) h
 ·simp only [execOp,hop] at h ⊢
  exact key _ (rb_extract _ _) h
end
def frzX : V → Prop
 | .fptr cs _=>0 < cs.length
 | .sptr sz xs i _=>0 < sz ∧ i < xs.length
 | _=>False
theorem cell_cells {w : World} {a : Addr} {u : Value} (h : w.cell? a = some u) : ∃ us e fr,w.heap[a.block]? = some (.cells us e fr):=by
 unfold World.cell? at h
 cases hb : w.heap[a.block]? with
 | none=>rw [hb] at h; simp at h
 | some o=>cases o <;> rw [hb] at h <;> first | exact ⟨_,_,_,rfl⟩ | simp at h
theorem frz_ptr {c : Cx} {x : V} {v : Value} (h : RV c x v) (hx : frzX x) : ∃ a,v = .pointer (some a) ∧ c.fz a.block ∧ ∃ us e fr,c.w.heap[a.block]? = some (.cells us e fr):=by
 cases x <;> first | exact hx.elim | skip
 ·rename_i sz xs i off
  obtain ⟨h1,h2⟩ : 0 < sz ∧ i < xs.length:=hx
  obtain ⟨b,o,e,hf,hr⟩:=h
  refine ⟨_,e,hf,?_⟩
  obtain ⟨g1,g2⟩:=hr.get i (Zc h2)
  obtain ⟨u,g3,_⟩:=g2.get 0 (Zc (by omega))
  have:=cell_cells g3; exact this
 ·rename_i cs off
  obtain ⟨b,e,hf,hr⟩:=h
  refine ⟨_,e,hf,?_⟩
  obtain ⟨u,g3,_⟩:=hr.get 0 (Zc hx)
  have:=cell_cells g3; exact this
def opX (ev : Operand → V) : Op → Prop
 | .move _=>True
 | .extract _ _=>True
 | .indexAddr _ _ _=>True
 | .nilCheck x=>frzX (ev x)
 | .fieldAddr _ x _=>frzX (ev x)
 | .load _ x=>frzX (ev x)
 | _=>False
def FLi (P : Program) : List Oper → St → Prop
 | [],st=>st.m = []
 | o :: os,st=>opX (St.ev st.t) o.op ∧ T1 P o st (fun st'=>FLi P os st')
def pickM : Option Oper → List Oper → List Oper
 | some o,os=>o :: os
 | none,os=>os
def pickO (os : List Oper) : List Nat → List Oper
 | []=>[]
 | f :: fl=>pickM os[f]? (pickO os fl)
def FL (P : Program) (ops : Array Oper) (fl : List Nat) (t : List V) : Prop:=FLi P (pickO ops.toList fl) ⟨t,[],[]⟩
theorem FLi_m {P : Program} : ∀ (os : List Oper) (st : St),FLi P os st → st.m = []
 | [],_,h=>h
 | o :: os,st,⟨_,h⟩=>by
   obtain ⟨r,new,_,h2⟩:=Q1_sound (o:=o) h
   have:=FLi_m os _ h2
   exact (List.append_eq_nil_iff.1 this).1
section
variable {P : Program} {os : List Oper} {t : List V} {gs : List V} {o : Oper} {m : List Ob} {ops : Array Oper} {fl : List Nat} {ev : Operand → V}
@[method_specs_simp] theorem FL_eq : FL P os.toArray fl t = FLi P (pickO os fl) ⟨t,[],[]⟩:=nr rfl
@[method_specs_simp] theorem FLi_cons : FLi P (o :: os) ⟨t,m,gs⟩ = (opX (St.ev t) o.op ∧ T1 P o ⟨t,m,gs⟩ (fun st'=>FLi P os st')):=nr rfl
@[method_specs_simp] theorem FLi_nil : FLi P [] ⟨t,[],gs⟩ = True:=eq_true rfl
@[method_specs_simp] theorem pick_cons {f : Nat} : pickO os (f :: fl) = pickM os[f]? (pickO os fl):=nr rfl
@[method_specs_simp] theorem pick_nil : pickO os [] = []:=nr rfl
@[method_specs_simp] theorem pick_some {o : Oper} : pickM (some o) os = o :: os:=nr rfl
@[method_specs_simp] theorem opX_load {u : TypeId} {x : Operand} : opX ev (.load u x) = frzX (ev x):=nr rfl
@[method_specs_simp] theorem opX_nil {x : Operand} : opX ev (.nilCheck x) = frzX (ev x):=nr rfl
@[method_specs_simp] theorem opX_field {u i : Nat} {x : Operand} : opX ev (.fieldAddr u x i) = frzX (ev x):=nr rfl
@[method_specs_simp] theorem opX_move {x : Operand} : opX ev (.move x) = True:=nr rfl
@[method_specs_simp] theorem opX_index {u : TypeId} {x y : Operand} : opX ev (.indexAddr u x y) = True:=nr rfl
@[method_specs_simp] theorem frzX_fptr {c : V} {cs : List V} {off : Nat} : frzX (.fptr (c :: cs) off) = True:=eq_true (Nat.succ_pos _)
@[method_specs_simp] theorem frzX_sptr {sz i off : Nat} {xs : List (List V)} : frzX (.sptr sz xs i off) = (0 < sz ∧ i < xs.length):=nr rfl
end
def fltS (ops : Array Oper) : List Nat → List Nat → Bool
 | _,[]=>true
 | done,f :: fs=>!(fs.contains f) && fltS ops (f :: done) fs && (match ops[f]? with
   | some o=>o.guard.isNone && (o.after.toList.all fun e=>!Region.binds .any e || done.contains e.on) && ((YB ops.size).all fun j=>Yd j f || done.contains j || (match ops[j]? with
     | some oj=>(oj.after.toList.any fun e=>Region.binds .any e && Yd e.on f) || o.apart ops oj
     | none=>true))
   | none=>false)
section
variable {P : Program} {ops : Array Oper} {K : St → Prop} {w0 : World} {E Zo : Nat → Prop} {gh : List Value} {Q : Exit → Act → World → Prop}
theorem head_held {S : World → Prop} {k : Nat} {st st' : St} {rs : List Res} {fl : List Nat} (A : Any ops fl k) (hS : ∀ st a w,Rel w0 E Zo gh st a w → S w) (hQ : ∀ st a w,K st → Rel w0 E Zo gh st a w → Q .normal a w)
  (hrun : Run P (dsts ops) (ops.toList.take k) st rs st') (htail : RS P (dsts ops) (ops.toList.drop k) st' K) :
  ∀ (fuel : Nat) (F : List Bool) (a : Act) (w : World),F.length = k → left F + (ops.size - k) ≤ fuel → (∀ i,F[i]? = some true → ∀ j ∈ waits ops i,F[j]? = some true) → (∀ f ∈ fl,F[f]? = some true) →
   Part ops k st rs w0 E Zo gh F a w → wpAnyH P .any ops Q S fuel (lay0 ops.size F) a w:=by
 have hlenk : (ops.toList.take k).length = k:=by simp [A.le]
 have hrl : rs.length = k:=by rw [hrun.len,hlenk]
 have htl : ∀ (fuel : Nat) (a : Act) (w : World),ops.size - k ≤ fuel → Rel w0 E Zo gh st' a w → wpAnyH P .any ops Q S fuel (flags ops.size k) a w:=fun fuel a w hfu r =>
  tail_held A hQ (fun i o st K a w _ _ hS1 _ r=>Oper.wp_mono (fun a w h=>⟨(by obtain ⟨st'',_,h2⟩:=h; exact hS _ _ _ h2),h⟩) (S1_sound hS1 w0 E Zo gh a w _ r)) fuel k st' a w (Zg _) A.le (by omega) htail (hS _ _ _ r) r
 intro fuel
 induction fuel with
 | zero =>
  intro F a w hF hl hc hfl r
  have h0 : left F = 0:=by omega
  have hall:=left_zero h0
  rw [hF] at hall
  subst hall
  rw [lay0_all A.le]
  refine htl 0 a w (by omega) ?_
  rw [hrun.fin,hlenk]
  exact r
 | succ fuel ih =>
  intro F a w hF hl hc hfl r
  by_cases h0 : left F = 0
  ·have hall:=left_zero h0
   rw [hF] at hall
   subst hall
   rw [lay0_all A.le]
   refine htl (fuel + 1) a w (by omega) ?_
   rw [hrun.fin,hlenk]
   exact r
  ·refine ⟨fun hr=>?_,fun i hi=>?_⟩
   ·exfalso
    refine h0 ?_
    have hsz : (lay0 ops.size F).size = ops.size:=by have:=A.le; simp [lay0]; omega
    have:=ready_some hsz A.early hr
    have hF' : F = ZI F.length true:=all_true fun j hj=>by rw [← lay0_get hj]; exact this j (by have:=A.le; omega)
    rw [hF']
    exact left_rep _
   ·obtain ⟨h1,h2,h3⟩:=ready_waits hi
    have hik : i < k:=by
     by_cases hik : i < k
     ·exact hik
     ·exfalso
      refine h0 ?_
      have hw3 : ∀ l ∈ waits ops i,F[l]? = some true:=by
       intro l hl2
       have:=h3 l hl2
       by_cases hlk : l < F.length
       ·rw [ZX,lay0_get hlk] at this
        cases hb : F[l]? with
        | none=>rw [hb] at this; cases this
        | some b=>rw [hb] at this; simpa using this
       ·exfalso
        rw [ZX] at this
        unfold lay0 at this
        rw [List.getElem?_toArray,ZH (by omega),YR] at this
        split at this <;> simp at this
      have hanc0 : ∀ {a b : Nat},Anc ops a b → (∀ l ∈ waits ops a,F[l]? = some true) → F[b]? = some true:=by
       intro a b h
       induction h with
       | one h=>exact fun hw=>hw _ h
       | more h _ ih=>exact fun hw=>ih (hc _ (hw _ h))
      have hF' : F = ZI F.length true:=all_true fun j hj=>by
       by_cases hjf : j ∈ fl
       ·exact hfl j hjf
       ·exact hanc0 (A.tail i (by omega) h2 j (by omega) hjf) hw3
      rw [hF']
      exact left_rep _
    have hiF : F[i]? = some false:=by
     rw [ZX,lay0_get (by omega)] at h1
     have hlt : i < F.length:=by omega
     rw [Zc hlt] at h1 ⊢
     simpa using h1
    have h3' : ∀ j ∈ waits ops i,F[j]? = some true:=by
     intro j hj
     have hj2:=A.early i h2 j hj
     have:=h3 j hj
     rw [ZX,lay0_get (by omega)] at this
     cases hb : F[j]? with
     | none=>rw [hb] at this; cases this
     | some b=>rw [hb] at this; simpa using this
    rw [lay0_set (by omega)]
    have hnext : ∀ (a' : Act) (w' : World),Part ops k st rs w0 E Zo gh (F.set i true) a' w' → S w' ∧ wpAnyH P .any ops Q S fuel (lay0 ops.size (F.set i true)) a' w':=by
     intro a' w' hp
     refine ⟨hS _ _ _ hp,?_⟩
     refine ih (F.set i true) a' w' (by simpa using hF) (by have:=left_set hiF; omega) ?_ (fun f hf=>?_) hp
     rotate_left
     ·by_cases e : f = i
      ·subst e; rw [Yc (by omega)]
      ·rw [ZT (fun q=>e q.symm)]; exact hfl f hf
     intro j hj l hl
     by_cases e : j = i
     ·subst e
      have hlj:=A.early j h2 l hl
      rw [ZT (by omega)]
      exact h3' l hl
     ·rw [ZT (fun q=>e q.symm)] at hj
      have:=hc j hj l hl
      by_cases e2 : l = i
      ·subst e2
       rw [Yc (by omega)]
      ·rw [ZT (fun q=>e2 q.symm)]
       exact this
    rcases head_step (Q:=Q) A hrun hF hc r hik h2 hiF h3' hnext with ⟨hw,h⟩ | ⟨hw,h⟩
    ·unfold wpOp
     rw [Yi h2]
     simp only
     rw [if_pos hw]
     exact .inl h
    ·unfold wpOp
     rw [Yi h2]
     simp only
     rw [if_neg (by rw [hw]; decide)]
     exact h
theorem live_keep {w : World} {Zo : Nat → Prop} {m : List Ob} {β β' : List Lc} (h : (cx w Zo m β).le (cx w Zo m β')) {b : Nat} (k : liveAt m β b) : liveAt m β' b:=by
 obtain ⟨o,ob,l,h1,h2,h3⟩:=k
 have ho:=h.ob o trivial
 have ho : obLe m[o]? β[o]? m[o]? β'[o]?:=ho
 rw [h1,h2] at ho
 cases ob with
 | hole=>simp [Ob.blk] at h3
 | dead=>simp [Ob.blk] at h3
 | box lv cs =>
  rcases ho with ho | ⟨lv',cs',l',e1,e2,e3⟩
  ·cases ho
  ·refine ⟨o,_,l',h1,e2,?_⟩
   cases lv
   ·simp [Ob.blk] at h3
   ·simp only [Ob.blk,Option.some.injEq] at h3 ⊢; rw [e3]; exact h3
 | arr lv sz xs =>
  rcases ho with ho | ⟨lv',xs',e1,e2,e3⟩
  ·cases ho
  ·exact ⟨o,_,l,h1,e2,h3⟩
 | mp lv ks vs =>
  rcases ho with ho | ⟨lv',ks',vs',l',e1,e2,e3⟩
  ·cases ho
  ·refine ⟨o,_,l',h1,e2,?_⟩
   cases lv
   ·simp [Ob.blk] at h3
   ·simp only [Ob.blk,Option.some.injEq] at h3 ⊢; rw [e3]; exact h3
theorem flt_soundK {fl : List Nat} {k : Nat} {st st' : St} {rs : List Res} {wb : World} {β0 : List Lc} (A : Any ops fl k) (hQ : ∀ st2 a w,K st2 → Rel wb (liveAt st.m β0) Zo gh st2 a w → Q .normal a w) (hns : noSel ops = true) (hP : ∀ c a w,¬ Q (.panic c) a w)
  (hrun : Run P (dsts ops) (ops.toList.take k) st rs st') (htail : RS P (dsts ops) (ops.toList.drop k) st' K) :
  ∀ (todo done : List Nat) (fuel : Nat) (F : List Bool) (a : Act) (t : List V) (β : List Lc),fltS ops done todo = true → FL P ops todo t → Mem wb Zo st.m β → (cx wb Zo st.m β0).le (cx wb Zo st.m β) → RVs (cx wb Zo st.m β) t a.tmps.toList →
   (∀ g ∈ done,F[g]? = some true) → (∀ g ∈ done,g < k) → (∀ f ∈ todo,f < k) → F.length = k →
   left F + (ops.size - k) ≤ fuel → (∀ i,F[i]? = some true → ∀ j ∈ waits ops i,F[j]? = some true) →
   (∀ f ∈ todo,F[f]? = some false) → (∀ f ∈ fl,f ∈ todo ∨ F[f]? = some true) → Part ops k st rs wb (liveAt st.m β0) Zo gh F a wb → wpAnyH P .any ops Q (fun w=>Frame (liveAt st.m β0) wb w) fuel (lay0 ops.size F) a wb
 | [],done,fuel,F,a,t,β,_,_,_,_,_,_,_,_,hF,hl,hc,_,hfl,r=>head_held A (fun _ _ _ ⟨_,_,_,h,_⟩=>h) hQ hrun htail fuel F a wb hF hl hc (fun f hf=>(hfl f hf).resolve_left (by simp)) r
 | f :: todo,done,fuel,F,a,t,β,hb,hv,M,hle,ht,hd,hdk,hk,hF,hl,hc,hf,hfl,r=>by
   have hfF:=hf f Zv
   have hfk:=hk f Zv
   have hleft:=left_set hfF
   obtain ⟨fuel,rfl⟩ : ∃ n,fuel = n + 1:=⟨fuel - 1,by omega⟩
   have hsz : f < ops.size:=by have:=A.le; omega
   have ho : ops[f]? = some ops[f]:=Yi hsz
   unfold fltS at hb
   unfold FL at hv
   have ho' : ops.toList[f]? = some ops[f]:=by rw [YZ]; exact ho
   rw [pickO,ho'] at hv
   rw [ho] at hb
   obtain ⟨hv1,hv2⟩:=hv
   have hv2 : Q1 P (ops[f]).op (St.ev t) [] 0 (fun r new=>FLi P (pickO ops.toList todo) ⟨putT t (ops[f]).dst r,[] ++ new,[]⟩):=hv2
   simp only [ZR,Yb] at hb
   obtain ⟨⟨hb1,hb2⟩,⟨hb4,hb5⟩,hb6⟩:=hb
   have hfn : f ∉ todo:=fun h=>by have:=Wi.2 h; rw [hb1] at this; cases this
   have hg : (ops[f]).guard = none:=by simpa using hb4
   have hw : ∀ j ∈ waits ops f,j ∈ done:=by
    intro j hj
    obtain ⟨e,he,hbe,rfl⟩:=(waits_spec ho).1 hj
    have:=ZS.1 hb5 e (Wo.2 he)
    rw [hbe] at this
    simpa using this
   have hwant : Region.wanted ops[f] (yielded ops a.tmps) = true:=by unfold Region.wanted; rw [hg]
   have hfz : ∀ b,(cx wb Zo st.m β).fz b → b < wb.heap.size ∧ ¬ liveAt st.m β0 b:=fun b h=>⟨h.1,fun hl=>h.2 (.inr (live_keep hle hl))⟩
   have hlook : lookP (fun b=>(b < wb.heap.size ∧ ¬ liveAt st.m β0 b) ∧ ∃ us e fr,wb.heap[b]? = some (.cells us e fr)) a.eval (ops[f]).op:=by
    cases hop : (ops[f]).op <;> rw [hop] at hv1 <;> first | exact hv1.elim | trivial | skip
    case load u x =>
     obtain ⟨A,e,h1,h2⟩:=frz_ptr (ev_RV ht x) hv1
     exact ⟨A,e,hfz _ h1,h2⟩
    case nilCheck x =>
     obtain ⟨A,e,h1,h2⟩:=frz_ptr (ev_RV ht x) hv1
     exact ⟨A,e⟩
    case fieldAddr u x i =>
     obtain ⟨A,e,h1,h2⟩:=frz_ptr (ev_RV ht x) hv1
     exact ⟨A,e,hfz _ h1,h2⟩
   have hsame : ∀ w',Frame (liveAt st.m β0) wb w' → ∀ b,((b < wb.heap.size ∧ ¬ liveAt st.m β0 b) ∧ ∃ us e fr,wb.heap[b]? = some (.cells us e fr)) → SameB wb w' b:=fun w' hS b h=>⟨hS.block b h.1.1 h.1.2,h.2⟩
   obtain ⟨rv,new,hqs,hv3⟩:=Q1_sound hv2
   have hnew : new = []:=FLi_m _ _ hv3
   subst hnew
   have hwp:=hqs wb Zo st.m β a (fun _ _ _=>False) M (fun o ob h=>by simp at h) (fun x _=>ev_RV ht x) (fun j hj=>by simp at hj)
   unfold Oper.wp at hwp
   obtain ⟨v,hrun1,hyield,hres⟩ : ∃ v,(execOp a.eval ops[f]).run P wb = .ok (.value v) wb ∧ (∀ w',Frame (liveAt st.m β0) wb w' → (execOp a.eval ops[f]).run P w' = .ok (.value v) w') ∧ ∃ β',Mem wb Zo st.m β' ∧ (cx wb Zo st.m β).le (cx wb Zo st.m β') ∧ RVs (cx wb Zo st.m β') (putT t (ops[f]).dst rv) (a.put (ops[f]).dst v).tmps.toList:=by
    cases hr : (execOp a.eval ops[f]).run P wb with
    | ok x w1 =>
     obtain ⟨v,rfl,rfl,h3⟩:=lookP_run hlook (hsame wb (Frame.refl _ _)) hr
     rw [hr] at hwp
     obtain ⟨v',β',e,hG,M',hle',hrv,_⟩:=hwp
     refine ⟨v,rfl,fun w' hS=>?_,β',M',hle',?_⟩
     ·obtain ⟨v2,e2,_,h4⟩:=lookP_run hlook (hsame w' hS) hr
      injection e2 with e2
      subst e2
      exact h4
     ·rw [e]
      exact (ht.mono hle').put hrv _
    | halt e w1 =>
     rw [hr] at hwp
     exfalso
     cases e <;> exact hwp
   obtain ⟨β',M',hle',hvs⟩:=hres
   refine wpAnyH_first (v:=v) ho (fun j o cs b hj=>noSel_out hns hj cs b) (fun c a w h=>(hP c _ _ h).elim) fuel (lay0 ops.size F) a wb (fun j oj hj hne hun hno=>?_) ?_ (.inl ⟨hwant,hyield⟩) (Frame.refl _ _) ?_
   ·have:=ZS.1 hb6 j (List.mem_range.2 (Ys.1 hj).1)
    rw [hj] at this
    simp only [Yv] at this
    rcases this with (h | h) | h | h
    ·exact absurd (Wp h) hne
    ·exfalso
     have hm : j ∈ done:=by simpa using h
     have hF2:=hd j hm
     rw [ZX,lay0_get (by have:=hdk j hm; omega),hF2] at hun
     cases hun
    ·obtain ⟨e,he,h2⟩:=List.any_eq_true.1 h
     simp only [ZR] at h2
     exact absurd (Wp h2.2) (hno e (Wo.1 he) h2.1)
    ·exact h
   ·refine mem_ready.2 ⟨?_,_,ho,fun e he hbe=>?_⟩
    ·rw [ZX,lay0_get (by omega),hfF]; rfl
    ·have hm : e.on ∈ done:=hw _ ((waits_spec ho).2 ⟨e,he,hbe,rfl⟩)
     rw [ZX,lay0_get (by have:=hdk _ hm; omega),hd _ hm]; rfl
   ·rw [lay0_set (by omega)]
    have hpart : Part ops k st rs wb (liveAt st.m β0) Zo gh (F.set f true) (a.put (ops[f]).dst v) wb:=by
     rcases head_step (Q:=fun _ _ _=>False) (K':=fun a' w'=>Part ops k st rs wb (liveAt st.m β0) Zo gh (F.set f true) a' w') A hrun hF hc r hfk hsz hfF (fun j hj=>hd j (hw j hj)) (fun _ _ h=>h) with ⟨_,h⟩ | ⟨h,_⟩
     ·unfold Oper.wp at h
      rw [hrun1] at h
      exact h
     ·rw [hwant] at h; cases h
    have hset : ∀ g,F[g]? = some true → (F.set f true)[g]? = some true:=fun g h=>by
     by_cases e : g = f
     ·subst e; rw [Yc (by omega)]
     ·rw [ZT (fun q=>e q.symm)]; exact h
    refine flt_soundK A hQ hns hP hrun htail todo (f :: done) fuel (F.set f true) _ _ β' hb2 hv3 M' (hle.trans hle') hvs (fun g hg=>?_) (fun g hg=>?_) (fun g hg=>hk g (ZO _ hg)) (by simpa using hF) (by omega) ?_ (fun g hg=>?_) (fun g hg=>?_) hpart
    ·rcases Zz.1 hg with rfl | hg
     ·rw [Yc (by omega)]
     ·exact hset g (hd g hg)
    ·rcases Zz.1 hg with rfl | hg
     ·exact hfk
     ·exact hdk g hg
    ·intro j hj l hl
     by_cases e : j = f
     ·subst e
      exact hset l (hd l (hw l hl))
     ·rw [ZT (fun q=>e q.symm)] at hj
      exact hset l (hc j hj l hl)
    ·have hne : g ≠ f:=fun e=>hfn (e ▸ hg)
     rw [ZT (fun q=>hne q.symm)]
     exact hf g (ZO _ hg)
    ·rcases hfl g hg with h | h
     ·rcases Zz.1 h with rfl | h
      ·exact .inr (by rw [Yc (by omega)])
      ·exact .inl h
     ·exact .inr (hset g h)
def WA (P : Program) (ops : Array Oper) (st : St) (Q : Exit → St → Prop) : Prop:=∀ (w0 : World) (E Zo : Nat → Prop) (gh : List Value) (a : Act) (w : World),Rel w0 E Zo gh st a w →
 wpAny P .any ops (fun e a' w'=>∃ st',Q e st' ∧ Rel w0 E Zo gh st' a' w') ops.size (Array.replicate ops.size false) a { w with drawn:=w.drawn + 1 }
theorem WA.sound {st : St} {Q : Exit → St → Prop} {id : Nat} (hm : P.follows .mixedOrders = true) (h : WA P ops st Q) : SW P (.region id ops true) st Q :=
 fun w0 E Zo gh a w r=>wp_region_any hm (h w0 E Zo gh a w r)
theorem WA.drawnK0 {st : St} {Q : Exit → St → Prop} (fl : List Nat) (k : Nat) (hk : anyF ops fl k = true) (hf : fltS ops [] fl = true) (hfv : FL P ops fl st.t) (hns : noSel ops = true) (hP : ∀ c st,¬ Q (.panic c) st)
  (h : RQ P (dsts ops) k ops.toList st (Q .normal)) : WA P ops st Q:=by
 intro w0 E Zo gh a w r
 have A:=Any.of hk
 obtain ⟨rs,st',hrun,htail⟩:=RQ_run h
 have hlenk : (ops.toList.take k).length = k:=by simp [A.le]
 have hrl : rs.length = k:=by rw [hrun.len,hlenk]
 have h0 : Array.replicate ops.size false = lay0 ops.size (ZI k false):=by
  have:=A.le
  unfold lay0
  rw [List.length_replicate,Wq,show k + (ops.size - k) = ops.size by omega]
  simp
 rw [h0]
 obtain ⟨β,M,g1,g2,g3,g4,g5⟩:=r
 have hG : Grow w { w with drawn:=w.drawn + 1 }:=Grow.drew w
 have hup : ∀ (st2 : St) (a : Act) (w2 : World),Rel { w with drawn:=w.drawn + 1 } (liveAt st.m β) Zo gh st2 a w2 → Rel w0 E Zo gh st2 a w2:=by
  rintro st2 a w2 ⟨β2,M2,q1,q2,q3,q4,q5⟩
  refine ⟨β2,M2,fun b hb=>?_,?_,q3,q4,q5⟩
  ·rcases q1 b hb with h | h
   ·exact g1 b h
   ·exact .inr (Yy g2.size h)
  ·have g3 : Frame E w0 { w with drawn:=w.drawn + 1 }:=g2.trans (hG.mono (fun _ q=>q.elim))
   exact ⟨q2.os.trans g3.os,q2.tape.trans g3.tape,q2.output.trans g3.output,Yy g3.size q2.size,fun i hi hE=>(q2.block i (Yg hi g3.size) (fun hl=>(g1 i hl).elim hE (fun h=>by omega))).trans (g3.block i hi hE),Yy g3.drawn q2.drawn⟩
 refine wpAny_of_held _ _ _ _ (flt_soundK (K:=Q .normal) (st:=st) (β0:=β) (wb:={ w with drawn:=w.drawn + 1 }) (Zo:=Zo) (gh:=gh) A (fun st2 a w hq hr=>⟨st2,hq,hup _ _ _ hr⟩) hns (fun c a w ⟨st,h,_⟩=>hP c st h) hrun htail fl [] ops.size _ a st.t β hf hfv (M.grow hG) (Cx.le.refl _) (g4.mono (cx_le_grow hG)) (fun g hg=>by cases hg) (fun g hg=>by cases hg) A.flt (by simp) ?_ (fun i hi=>?_) (fun f hf=>?_) (fun f hf=>.inl hf) ?_)
 ·have h1 : ∀ n,left (ZI n false) = n:=by
   intro n
   induction n with
   | zero=>rfl
   | succ n ih=>simp [YN,left,ih]; omega
  have:=A.le
  rw [h1]; omega
 ·rw [YR] at hi
  split at hi <;> cases hi
 ·rw [YR,if_pos (A.flt f hf)]
 ·unfold Part
  rw [runT_none]
  have hf : ∀ (l : List Res),∃ n,flatM l (ZI l.length false) = ZI n .hole:=by
   intro l
   induction l with
   | nil=>exact ⟨0,rfl⟩
   | cons x xs ih =>
    obtain ⟨n,hn⟩:=ih
    refine ⟨(newOf x).length + n,?_⟩
    simp [YN,flatM,hn,← Wq]
  obtain ⟨n,hn⟩:=hf rs
  rw [hrl] at hn
  rw [hn]
  obtain ⟨M1,hle⟩:=(M.grow hG).holes n
  refine ⟨_,M1,?_,Frame.refl _ _,g3,g4.mono ((cx_le_grow hG).trans hle),g5.mono ((cx_le_grow hG).trans hle)⟩
  rintro b ⟨p,q,l,h1,h2,h3⟩
  rcases getElem?_append_holes h1 with h1 | ⟨_,rfl⟩
  ·rw [ZZ (by rw [M.len]; exact (ZW.1 h1).1)] at h2
   exact .inl ⟨p,q,l,h1,h2,h3⟩
  ·simp [Ob.blk] at h3
theorem SW.drawnK {st : St} {Q : Exit → St → Prop} {id : Nat} (fl : List Nat) (k : Nat) (hm : P.follows .mixedOrders = true) (hk : anyF ops fl k = true) (hf : fltS ops [] fl = true) (hns : noSel ops = true) (hfv : FL P ops fl st.t)
  (h : RQ P (dsts ops) k ops.toList st (Q .normal)) : SW P (.region id ops true) st Q:=by
 refine SW.mono (Q:=fun e st=>match e with | .normal=>Q .normal st | _=>False) (WA.sound hm (WA.drawnK0 fl k hk hf hfv hns (fun c st h=>h) h)) fun e st h=>?_
 cases e <;> first | exact h | exact h.elim
def renO (inv : List Nat) (o : Oper) : Oper:=⟨o.dst,o.op,o.type,o.pos,o.after.map (fun e=>⟨inv.getD e.on inv.length,e.ground⟩),o.guard⟩
def permO (ord inv : List Nat) (ops : Array Oper) : Array Oper:=((pickO ops.toList ord).map (renO inv)).toArray
def permB (ord inv : List Nat) (ops : Array Oper) : Bool:=Yd ord.length ops.size && Yd inv.length ops.size && ((YB ops.size).all fun i=>Nat.blt (ord.getD i ops.size) ops.size && Nat.blt (inv.getD i ops.size) ops.size && Yd (ord.getD (inv.getD i ops.size) ops.size) i && Yd (inv.getD (ord.getD i ops.size) ops.size) i) && ops.toList.all fun o=>o.guard.isNone
structure PermO (ord inv : List Nat) (ops ops' : Array Oper) : Prop where
 io : ∀ i,i < ops.size → inv.getD i ops.size < ops.size ∧ ord.getD (inv.getD i ops.size) ops.size = i
 oi : ∀ i,i < ops.size → ord.getD i ops.size < ops.size ∧ inv.getD (ord.getD i ops.size) ops.size = i
 li : inv.length = ops.size
 op : ∀ i o,ops[i]? = some o → o.guard = none ∧ ops'[inv.getD i ops.size]? = some (renO inv o)
 sz : ops'.size = ops.size
end
end Go.Pm
end
section
namespace Go.Pm
open Go.RowKit
theorem SW.cvo {P : Program} {c : Code} {st : St} {Q : Exit → St → Prop} (o : Nat) {lv : Bool} {sz : Nat} {xs xs' : List (List V)} (hm : st.m[o]? = some (.arr lv sz xs)) (hx : (xs.map fun x=>x.map (conv st.m)) = xs')
  (h : Go.Pm.SW P c ⟨st.t,st.m.set o (.arr lv sz xs'),st.g⟩ Q) : Go.Pm.SW P c st Q:=by
 intro w0 E Zo gh a w ⟨β,M,h1,h2,h3,h4,h5⟩
 obtain ⟨l,hl,hok⟩:=M.at_ hm
 have hlen : xs'.length = xs.length:=by rw [← hx,Zi]
 obtain ⟨M',hle⟩:=M.turn (w':=w) (ob':=.arr lv sz xs') hm hl (.inr ⟨lv,xs',rfl,rfl,by rw [hlen]; exact Zg _⟩) (fun b hb=>by cases lv <;> exact hb) rfl (fun b _ _=>rfl) (fun hle hfz=>by
  obtain ⟨k1,k2,k3,k4⟩:=hok
  refine ⟨by rw [hlen]; exact k1,k2,k3,k4.imp id ?_⟩
  rintro ⟨us,e,fr,q1,q2,q3,q4,q5⟩
  refine ⟨us,e,fr,q1,q2,q3,?_,q5.imp id (fun hf=>(hle.fz _ hf).1)⟩
  have hrr : RR (cx w Zo (st.m.set o (.arr lv sz xs')) β) sz l.b 0 (xs.map fun x=>x.map (conv st.m)):=RR_map (c:=cx w Zo st.m β) (c':=cx w Zo (st.m.set o (.arr lv sz xs')) β) (f:=conv st.m) rfl (fun x _ y _ v hv=>(conv_sound M y v hv).mono hle) q4
  rw [hx] at hrr
  exact hrr)
 exact h w0 E Zo gh a w ⟨β,M',fun b ⟨o1,ob1,l1,g1,g2,g3⟩=>(by
  rcases getElem?_set_some g1 with ⟨rfl,rfl,_⟩ | ⟨hne,g1⟩
  ·exact h1 b ⟨_,_,l1,hm,g2,by cases lv <;> exact g3⟩
  ·exact h1 b ⟨o1,ob1,l1,g1,g2,g3⟩),h2,h3,h4.mono hle,h5.mono hle⟩
end Go.Pm
end
end
section
namespace Go.Proofs.YtlgeggpcnbbjdaaGreat
open Go.Pm
open Go.Gm (Ev Gr)
def DD (g : Gr) : List (Int × Int):=depM g.events (Gm.depthsE g.events) g.events.length
theorem lookD_dep {evs : List Ev} (hs : Gm.Srt evs) {dl : List Int} (hl : dl.length = evs.length) : ∀ (i k : Nat) {e : Ev} {d : Int},k < i → evs[k]? = some e → dl[k]? = some d → lookD (depM evs dl i) e.id 0 = d
 | 0,k,e,d,h,_,_=>by omega
 | i + 1,k,e,d,h,he,hd=>by
   by_cases hi : i < evs.length
   ·obtain ⟨e',he'⟩ : ∃ e',evs[i]? = some e':=⟨_,Zc hi⟩
    obtain ⟨d',hd'⟩ : ∃ d',dl[i]? = some d':=⟨_,Zc (by omega)⟩
    have hz : (evs.zip dl)[i]? = some (e',d'):=by rw [Wn]; exact ⟨he',hd'⟩
    have hnx : depM evs dl (i + 1) = putK (depM evs dl i) e'.id d':=by
     unfold depM
     rw [ZA,hz,ZC,Yk]; rfl
    rw [hnx,lookD_put]
    by_cases hki : k = i
    ·subst hki
     rw [he] at he'; injection he' with he'
     rw [hd] at hd'; injection hd' with hd'
     rw [he',if_pos rfl,hd']
    ·have hlt : e.id < e'.id:=Gm.pw_get hs (by omega : k < i) he he'
     rw [if_neg (by omega)]
     exact lookD_dep hs hl i k (by omega) he hd
   ·have hz : (evs.zip dl)[i]? = none:=by rw [Wc]; rw [List.length_zip]; omega
    have hkl:=(ZW.1 he).1
    have hnx : depM evs dl (i + 1) = depM evs dl i:=by
     unfold depM
     rw [ZA,hz,Option.toList_none,ZF]
    rw [hnx]
    exact lookD_dep hs hl i k (by omega) he hd
theorem evOf_at {g : Gr} {a : Int} (h : Gm.hasId g.events a = true) : ∃ e,g.events[Gm.fidE g.events a]? = some e ∧ evOf g a = e ∧ e.id = a:=by
 obtain ⟨e,h1,h2⟩:=Gm.fid_get h
 refine ⟨e,h1,?_,h2⟩
 unfold evOf
 rw [← fid_at h,h1]; rfl
theorem DD_at {g : Gr} (h : GG g) {a : Int} (ha : Gm.hasId g.events a = true) : ∃ d,(Gm.depthsE g.events)[Gm.fidE g.events a]? = some d ∧ lookD (DD g) (evOf g a).id 0 = d:=by
 obtain ⟨e,h1,h2,h3⟩:=evOf_at ha
 have hl:=Gm.fid_lt ha
 have hdl:=(Gm.depths_ok g.events).len
 refine ⟨_,Zc (by omega),?_⟩
 rw [h2]
 exact lookD_dep h.srt hdl _ _ hl h1 (Zc (by omega))
theorem lessB_eq {D : List (Int × Int)} {x y : Ev} : decide (cmpD D x y < 0) = if firstE x != firstE y then firstE x else if lookD D x.id 0 != lookD D y.id 0 then decide (lookD D x.id 0 < lookD D y.id 0) else if x.time != y.time then decide (x.time < y.time) else decide (x.id < y.id):=by
 rw [Bool.eq_iff_iff,decide_eq_true_eq,cmpD_iff]
 unfold fk
 have hsame : ∀ b : Bool,((if b then (0 : Int) else 1) < (if b then 0 else 1)) = False:=fun b=>by cases b <;> simp
 have hb : ∀ b : Bool,(b != b) = false:=fun b=>by cases b <;> rfl
 have key : (lookD D x.id 0 < lookD D y.id 0 ∨ lookD D x.id 0 = lookD D y.id 0 ∧ (x.time < y.time ∨ x.time = y.time ∧ x.id < y.id)) ↔ (if (lookD D x.id 0 != lookD D y.id 0) = true then decide (lookD D x.id 0 < lookD D y.id 0) else if (x.time != y.time) = true then decide (x.time < y.time) else decide (x.id < y.id)) = true:=by
  by_cases h1 : lookD D x.id 0 = lookD D y.id 0
  ·rw [if_neg (by simp [h1])]
   by_cases h2 : x.time = y.time
   ·rw [if_neg (by simp [h2]),decide_eq_true_eq]; omega
   ·rw [if_pos (by simp [h2]),decide_eq_true_eq]; omega
  ·rw [if_pos (by simp [h1]),decide_eq_true_eq]; omega
 cases hx : firstE x <;> cases hy : firstE y
 ·rw [if_neg (c:=(false != false) = true) (by decide),← key]; simp
 ·simp
 ·simp
 ·rw [if_neg (c:=(true != true) = true) (by decide),← key]; simp
section
variable {P : Program} [Is P]
theorem c_l06Heavy (e : Ev) : Con P 168 [.agg (encEv e)] (.bool (firstE e)):=by
 refine Con.of (n:=28) (rs:=[.tmp 2]) (Is.fn Tryz.func168) rfl (Is.call Tryz.call168) Tryz.results168 Tryz.ntmps168 trivial ?_
 simp only [method_specs_simp,seval]
 simp only [method_specs_simp,seval,encEv]
 unfold firstE
 cases e.kind == 1 <;> cases e.kind == 3 <;> cases e.kind == 5 <;> cases e.kind == 2 <;> simp [method_specs_simp]
theorem c_l06Less (g : Gr) (h : GG g) (a b : Int) (ha : Gm.hasId g.events a = true) (hb : Gm.hasId g.events b = true) : Con P 139 [.agg (encGr g),.sl 1 ((Gm.depthsE g.events).map encI),.int .i64 a,.int .i64 b] (.bool (decide (cmpD (DD g) (evOf g a) (evOf g b) < 0))):=by
 have h60:=h.n
 obtain ⟨x,hx1,hx2,hx3⟩:=evOf_at ha
 obtain ⟨y,hy1,hy2,hy3⟩:=evOf_at hb
 obtain ⟨da,hda1,hda2⟩:=DD_at h ha
 obtain ⟨db,hdb1,hdb2⟩:=DD_at h hb
 have hal:=Gm.fid_lt ha
 have hbl:=Gm.fid_lt hb
 have hdl:=(Gm.depths_ok g.events).len
 have hai : atI g.events a = ((Gm.fidE g.events a : Nat) : Int):=atI_yes ha
 have hbi : atI g.events b = ((Gm.fidE g.events b : Nat) : Int):=atI_yes hb
 obtain ⟨i,hi⟩ : ∃ i,i = Gm.fidE g.events a:=⟨_,rfl⟩
 obtain ⟨j,hj⟩ : ∃ j,j = Gm.fidE g.events b:=⟨_,rfl⟩
 obtain ⟨dl,hdd⟩ : ∃ dl,dl = Gm.depthsE g.events:=⟨_,rfl⟩
 rw [← hi] at hx1 hda1 hal hai
 rw [← hj] at hy1 hdb1 hbl hbi
 rw [← hdd] at hda1 hdb1 hdl ⊢
 rw [hx2] at hda2
 rw [hy2] at hdb2
 rw [hx2,hy2]
 refine Con.ofS (n:=74) (rs:=[.tmp 8]) (Is.fn Tryz.func139) rfl (Is.call Tryz.call139) Tryz.results139 Tryz.ntmps139 trivial ?_
 refine SW.seq (CW.sound ?_)
 simp only [method_specs_simp,seval,encGr,encEv]
 refine SW.seq (CW.sound ?_)
 simp only [method_specs_simp,seval,encGr,encEv]
 refine ⟨by kernel_rfl,?_⟩
 refine clY.con (c_l03At g.events a (by omega)) (by simp only [method_specs_simp,encGr,encEv]) ?_
 simp only [method_specs_simp,seval,encGr,encEv,hai]
 refine clY.con (c_l03At g.events b (by omega)) (by simp only [method_specs_simp,encGr,encEv]) ?_
 simp only [method_specs_simp,seval,encGr,encEv,hbi]
 refine SW.freeze [0] ?_
 simp only [mvcgen_simp,method_specs_simp,seval,encGr,encEv,convs_r8j,conv_junkj]
 refine SW.seq (SW.drawnK [5,6,7,8,9] 12 mixed (by kernel_rfl) (by kernel_rfl) (by kernel_rfl) ?_ ?_)
 ·simp only [method_specs_simp,seval,encGr,encEv,List.getElem?_cons_succ,List.getElem?_cons_zero,hy1]
  exact ⟨by omega,by omega,by omega⟩
 show RQi P _ _ _ _ _
 simp only [method_specs_simp,seval,encGr,encEv,hx1,hy1]
 refine ⟨by omega,by omega,by omega,by omega,?_⟩
 rw [lessB_eq,hda2,hdb2]
 refine CW.sound ?_
 simp only [method_specs_simp,seval,encGr,encEv,Ze,Zf]
 refine ⟨by kernel_rfl,?_⟩
 refine clY.con (c_l06Heavy x) (by simp only [method_specs_simp,encGr,encEv,Ze,Zf]) ?_
 simp only [method_specs_simp,seval,encGr,encEv,Ze,Zf]
 refine clY.con (c_l06Heavy y) (by simp only [method_specs_simp,encGr,encEv,Ze,Zf]) ?_
 simp only [method_specs_simp,seval,encGr,encEv,Ze,Zf]
 cases hfx : firstE x <;> cases hfy : firstE y
 case false.true =>
  simp only [method_specs_simp,seval,encGr,encEv,Ze,Zf]
  refine clY.con (c_l06Heavy x) (by simp only [method_specs_simp,encGr,encEv,Ze,Zf]) ?_
  simp only [method_specs_simp,seval,encGr,encEv,Ze,Zf,hfx]
 case true.false =>
  simp only [method_specs_simp,seval,encGr,encEv,Ze,Zf]
  refine clY.con (c_l06Heavy x) (by simp only [method_specs_simp,encGr,encEv,Ze,Zf]) ?_
  simp only [method_specs_simp,seval,encGr,encEv,Ze,Zf,hfx]
 all_goals
  simp only [method_specs_simp,seval,encGr,encEv,Ze,Zf,hda1,hdb1,encI]
  refine ⟨by kernel_rfl,by omega,by omega,by omega,by omega,?_⟩
  cases k1 : (da != db)
  ·simp only [method_specs_simp,seval,encGr,encEv,Ze,Zf,k1]
   cases k2 : (x.time != y.time)
   ·simp only [method_specs_simp,seval,encGr,encEv,Ze,Zf,k2]
   ·simp only [method_specs_simp,seval,encGr,encEv,Ze,Zf,k2]
  ·simp only [method_specs_simp,seval,encGr,encEv,Ze,Zf,k1,hda1,hdb1,encI]
   exact ⟨by kernel_rfl,by omega,by omega,by omega,by omega⟩
end
end Go.Proofs.YtlgeggpcnbbjdaaGreat
end
