/- Facts on the types of the program, as the abstract machine asks for them. The functions that the law FnExactInboxRight uses, but for impl.InboxRight: what each hands back. No conditions but the lengths that each theorem names. What impl.InboxRight hands back. No conditions but a length below 2 to the 62. Inboxes: copies, marks, and what is held against them. No conditions but lengths. Inboxes: marks. No conditions but bounds of numbers and lengths. Entries: sizes, copies, comparisons, marks, and what is held against them. No conditions but lengths and bounds of numbers. Entries in order: comparisons and the place of an entry. No conditions but lengths. Putting an entry into a state, of the program. No conditions but lengths. Whether entries are right, of the reference and of the program. No conditions but lengths. Putting an entry into a state, of the reference. No conditions but lengths. The plain law of putting: in a sorted state, the program's put is the reference's. Plain graphs of events: what is right, where an event is, depths. No program in sight. Depths of events: passes over a row until nothing turns. No program in sight. Sorted lists: there is one only; merging in place; rotating. No program in sight. Graphs of events: sizes, copies, comparisons. No conditions but lengths and bounds. Right events, by the program and by the reference. No conditions but lengths. Where an event is in a row; what an event stands behind. No conditions but lengths and order. The depths o -/
import Derived.Test.YtnlobbbbgcdiiaaProg
import Derived.WalkKit
import Derived.ProofKit
import Derived.OpenShut
import Derived.ShutString
import Derived.ChangeOld
import Derived.Below
import Derived.SizedLaws
import Derived.Test.YtnlobbbbgcdiiaaA3
set_option linter.unusedSimpArgs false
set_option linter.unusedVariables false
set_option maxRecDepth 10000
set_option maxHeartbeats 4000000
open Int renaming ofNat_lt → Za, toNat_natCast → ZV, le_refl → Yh, ofNat_le → Ym, fdiv_eq_ediv_of_nonneg → YQ
open Bool renaming not_true → Zb, true_and → Zk, false_and → Zs, and_true → Zu, and_false → Zw, eq_iff_iff → ZM, and_eq_true → Yo, not_eq_true' → Yp, not_false → Yy
open List renaming getElem?_eq_getElem → Zc, append_assoc → Zf, getElem?_map → Zg, length_append → Zi, replicate → Zj, drop_eq_nil_of_le → Zm, getElem_mem → Zn, getD_eq_getElem?_getD → Zp, length_drop → Zq, length_take → Zr, take → Zt, pairwise_append → Zv, nil_append → Zx, getElem?_eq_some_iff → Zy, mem_cons → Zz, getElem?_append_right → ZA, take_sublist → ZB, drop_sublist → ZC, take_of_length_le → ZD, take_append_drop → ZE, cons_append → ZF, mem_of_getElem? → ZG, append_nil → ZH, pairwise_cons → ZI, length_set → ZJ, length_nil → ZK, length_cons → ZL, mem_cons_self → ZN, map_append → ZP, findIdx_cons → ZQ, mem_map → ZR, mem_append → ZS, map → ZT, length_singleton → ZU, foldl_cons → ZW, mem_cons_of_mem → ZX, drop → ZY, take_add_one → ZZ, all_eq_true → Ya, map_cons → Yb, map_nil → Yc, length_map → Yd, drop_drop → Ye, takeWhile_cons → Yf, any_eq_false → Yg, map_set → Yi, replicate_succ → Yj, all_nil → Yk, getElem?_append_left → Yl, map_singleton → Yn, getElem?_eq_none → Yq, getElem?_of_mem → Yr, range → Ys, set_cons_zero → Yt, eq_of_mem_replicate → Yu, set_append_right → Yx, eq_nil_of_length_eq_zero → Yz, pairwise_singleton → YA, nodup_cons → YB, sublist_append_left → YC, sublist_append_right → YD, nodup_append → YE, mem_filter → YH, contains_cons → YI, pairwise_iff_getElem → YK, set_cons_succ → YL, countP_eq_zero → YM, ext_getElem? → YN, getElem?_take → YO, all_eq_not_any_not → YR, mem_iff_getElem? → YS, perm_append_singleton → YT, pairwise_map → YV, pairwise_lt_range → YW, length_erase_of_mem → YX, length_pos_of_mem → YY, map_congr_left → YZ
open Nat renaming sub_lt_sub_left → Zd, lt_succ_self → Ze, zero_le → Zh, le_refl → Zl, zero_add → Yv, min_eq_left → Yw, sub_self → YF, lt_trichotomy → YJ, add_sub_cancel → YU
open Option renaming map_some → ZO, toList_some → YG
open Array renaming length_toList → YP
section
namespace Go.Proofs.Ytnlobbbbgcdiiaa
open Go.Pm
class Is (P : Program) : Prop where
 out : P = Try.prog
instance : Is Try.prog:=⟨rfl⟩
theorem Is.on {P : Program} [h : Is P] (q : Program → Prop) (k : q Try.prog) : q P:=h.out.symm ▸ k
theorem Is.fn {P : Program} [h : Is P] {f : FuncId} {fn : Func} (k : Try.prog.funcs[f]? = some fn) : P.funcs[f]? = some fn:=h.out.symm ▸ k
theorem Is.call {P : Program} [h : Is P] {f : FuncId} (k : ∀ (args : Array Value) (w : World),(callFunc f args).run Try.prog w = .ok (.enter f args) w) : ∀ (args : Array Value) (w : World),(callFunc f args).run P w = .ok (.enter f args) w:=h.out.symm ▸ k
section
variable {P : Program} [Is P]
@[method_specs_simp] theorem lay2 : lay P 2 = some (1,false):=Is.on (fun P=>lay P 2 = some (1,false)) (by kernel_rfl)
@[method_specs_simp] theorem zer2 : zer P 2 = some [.int .i64 0]:=Is.on (fun P=>zer P 2 = some [.int .i64 0]) (by kernel_rfl)
@[method_specs_simp] theorem byt2 : P.bytesOf 2 = 8:=Is.on (fun P=>P.bytesOf 2 = 8) (by kernel_rfl)
@[method_specs_simp] theorem int2 : intT P 2 = some .i64:=Is.on (fun P=>intT P 2 = some .i64) (by kernel_rfl)
@[method_specs_simp] theorem has2 : hasT P 2 = true:=Is.on (fun P=>hasT P 2 = true) (by kernel_rfl)
@[method_specs_simp] theorem lay3 : lay P 3 = some (1,false):=Is.on (fun P=>lay P 3 = some (1,false)) (by kernel_rfl)
@[method_specs_simp] theorem zer3 : zer P 3 = some [.int .i64 0]:=Is.on (fun P=>zer P 3 = some [.int .i64 0]) (by kernel_rfl)
@[method_specs_simp] theorem byt3 : P.bytesOf 3 = 8:=Is.on (fun P=>P.bytesOf 3 = 8) (by kernel_rfl)
@[method_specs_simp] theorem int3 : intT P 3 = some .i64:=Is.on (fun P=>intT P 3 = some .i64) (by kernel_rfl)
@[method_specs_simp] theorem has3 : hasT P 3 = true:=Is.on (fun P=>hasT P 3 = true) (by kernel_rfl)
@[method_specs_simp] theorem bol4 : isBoolT P 4 = true:=Is.on (fun P=>isBoolT P 4 = true) (by kernel_rfl)
@[method_specs_simp] theorem lay5 : lay P 5 = some (1,false):=Is.on (fun P=>lay P 5 = some (1,false)) (by kernel_rfl)
@[method_specs_simp] theorem zer5 : zer P 5 = some [.int .u8 0]:=Is.on (fun P=>zer P 5 = some [.int .u8 0]) (by kernel_rfl)
@[method_specs_simp] theorem byt5 : P.bytesOf 5 = 1:=Is.on (fun P=>P.bytesOf 5 = 1) (by kernel_rfl)
@[method_specs_simp] theorem int5 : intT P 5 = some .u8:=Is.on (fun P=>intT P 5 = some .u8) (by kernel_rfl)
@[method_specs_simp] theorem has5 : hasT P 5 = true:=Is.on (fun P=>hasT P 5 = true) (by kernel_rfl)
@[method_specs_simp] theorem lay9 : lay P 9 = some (1,false):=Is.on (fun P=>lay P 9 = some (1,false)) (by kernel_rfl)
@[method_specs_simp] theorem seq9 : seqT P 9 = true:=Is.on (fun P=>seqT P 9 = true) (by kernel_rfl)
@[method_specs_simp] theorem str9 : isStrT P 9 = true:=Is.on (fun P=>isStrT P 9 = true) (by kernel_rfl)
@[method_specs_simp] theorem elt22 : elt P 22 = some 5:=Is.on (fun P=>elt P 22 = some 5) (by kernel_rfl)
@[method_specs_simp] theorem seq22 : seqT P 22 = true:=Is.on (fun P=>seqT P 22 = true) (by kernel_rfl)
@[method_specs_simp] theorem lay48 : lay P 48 = some (1,false):=Is.on (fun P=>lay P 48 = some (1,false)) (by kernel_rfl)
@[method_specs_simp] theorem elt48 : elt P 48 = some 2:=Is.on (fun P=>elt P 48 = some 2) (by kernel_rfl)
@[method_specs_simp] theorem seq48 : seqT P 48 = true:=Is.on (fun P=>seqT P 48 = true) (by kernel_rfl)
@[method_specs_simp] theorem zer48 : zer P 48 = some [.nil]:=Is.on (fun P=>zer P 48 = some [.nil]) (by kernel_rfl)
@[method_specs_simp] theorem lay62 : lay P 62 = some (1,false):=Is.on (fun P=>lay P 62 = some (1,false)) (by kernel_rfl)
@[method_specs_simp] theorem elt62 : elt P 62 = some 74:=Is.on (fun P=>elt P 62 = some 74) (by kernel_rfl)
@[method_specs_simp] theorem lay64 : lay P 64 = some (3,true):=Is.on (fun P=>lay P 64 = some (3,true)) (by kernel_rfl)
@[method_specs_simp] theorem fld64_0 : fld P 64 0 = some (0,1,false):=Is.on (fun P=>fld P 64 0 = some (0,1,false)) (by kernel_rfl)
@[method_specs_simp] theorem fld64_1 : fld P 64 1 = some (1,1,false):=Is.on (fun P=>fld P 64 1 = some (1,1,false)) (by kernel_rfl)
@[method_specs_simp] theorem fld64_2 : fld P 64 2 = some (2,1,false):=Is.on (fun P=>fld P 64 2 = some (2,1,false)) (by kernel_rfl)
@[method_specs_simp] theorem lay67 : lay P 67 = some (1,false):=Is.on (fun P=>lay P 67 = some (1,false)) (by kernel_rfl)
@[method_specs_simp] theorem elt67 : elt P 67 = some 79:=Is.on (fun P=>elt P 67 = some 79) (by kernel_rfl)
@[method_specs_simp] theorem lay69 : lay P 69 = some (3,true):=Is.on (fun P=>lay P 69 = some (3,true)) (by kernel_rfl)
@[method_specs_simp] theorem fld69_0 : fld P 69 0 = some (0,1,false):=Is.on (fun P=>fld P 69 0 = some (0,1,false)) (by kernel_rfl)
@[method_specs_simp] theorem fld69_1 : fld P 69 1 = some (1,1,false):=Is.on (fun P=>fld P 69 1 = some (1,1,false)) (by kernel_rfl)
@[method_specs_simp] theorem fld69_2 : fld P 69 2 = some (2,1,false):=Is.on (fun P=>fld P 69 2 = some (2,1,false)) (by kernel_rfl)
@[method_specs_simp] theorem zer69 : zer P 69 = some [.int .i64 0,.nil,.nil]:=Is.on (fun P=>zer P 69 = some [.int .i64 0,.nil,.nil]) (by kernel_rfl)
@[method_specs_simp] theorem lay74 : lay P 74 = some (9,true):=Is.on (fun P=>lay P 74 = some (9,true)) (by kernel_rfl)
@[method_specs_simp] theorem fld74_0 : fld P 74 0 = some (0,1,false):=Is.on (fun P=>fld P 74 0 = some (0,1,false)) (by kernel_rfl)
@[method_specs_simp] theorem fld74_1 : fld P 74 1 = some (1,1,false):=Is.on (fun P=>fld P 74 1 = some (1,1,false)) (by kernel_rfl)
@[method_specs_simp] theorem fld74_2 : fld P 74 2 = some (2,1,false):=Is.on (fun P=>fld P 74 2 = some (2,1,false)) (by kernel_rfl)
@[method_specs_simp] theorem fld74_3 : fld P 74 3 = some (3,1,false):=Is.on (fun P=>fld P 74 3 = some (3,1,false)) (by kernel_rfl)
@[method_specs_simp] theorem fld74_4 : fld P 74 4 = some (4,1,false):=Is.on (fun P=>fld P 74 4 = some (4,1,false)) (by kernel_rfl)
@[method_specs_simp] theorem fld74_5 : fld P 74 5 = some (5,1,false):=Is.on (fun P=>fld P 74 5 = some (5,1,false)) (by kernel_rfl)
@[method_specs_simp] theorem fld74_6 : fld P 74 6 = some (6,1,false):=Is.on (fun P=>fld P 74 6 = some (6,1,false)) (by kernel_rfl)
@[method_specs_simp] theorem fld74_7 : fld P 74 7 = some (7,1,false):=Is.on (fun P=>fld P 74 7 = some (7,1,false)) (by kernel_rfl)
@[method_specs_simp] theorem fld74_8 : fld P 74 8 = some (8,1,false):=Is.on (fun P=>fld P 74 8 = some (8,1,false)) (by kernel_rfl)
@[method_specs_simp] theorem lay79 : lay P 79 = some (9,true):=Is.on (fun P=>lay P 79 = some (9,true)) (by kernel_rfl)
@[method_specs_simp] theorem fld79_0 : fld P 79 0 = some (0,1,false):=Is.on (fun P=>fld P 79 0 = some (0,1,false)) (by kernel_rfl)
@[method_specs_simp] theorem fld79_1 : fld P 79 1 = some (1,1,false):=Is.on (fun P=>fld P 79 1 = some (1,1,false)) (by kernel_rfl)
@[method_specs_simp] theorem fld79_2 : fld P 79 2 = some (2,1,false):=Is.on (fun P=>fld P 79 2 = some (2,1,false)) (by kernel_rfl)
@[method_specs_simp] theorem fld79_3 : fld P 79 3 = some (3,1,false):=Is.on (fun P=>fld P 79 3 = some (3,1,false)) (by kernel_rfl)
@[method_specs_simp] theorem fld79_4 : fld P 79 4 = some (4,1,false):=Is.on (fun P=>fld P 79 4 = some (4,1,false)) (by kernel_rfl)
@[method_specs_simp] theorem fld79_5 : fld P 79 5 = some (5,1,false):=Is.on (fun P=>fld P 79 5 = some (5,1,false)) (by kernel_rfl)
@[method_specs_simp] theorem fld79_6 : fld P 79 6 = some (6,1,false):=Is.on (fun P=>fld P 79 6 = some (6,1,false)) (by kernel_rfl)
@[method_specs_simp] theorem fld79_7 : fld P 79 7 = some (7,1,false):=Is.on (fun P=>fld P 79 7 = some (7,1,false)) (by kernel_rfl)
@[method_specs_simp] theorem fld79_8 : fld P 79 8 = some (8,1,false):=Is.on (fun P=>fld P 79 8 = some (8,1,false)) (by kernel_rfl)
@[method_specs_simp] theorem fok79 : fldsOK P 79 = true:=Is.on (fun P=>fldsOK P 79 = true) (by kernel_rfl)
@[method_specs_simp] theorem zer79 : zer P 79 = some [.int .i64 0,.int .i64 0,.int .i64 0,.int .i64 0,.int .i64 0,.int .i64 0,.str ByteArray.empty,.nil,.int .i64 0]:=Is.on (fun P=>zer P 79 = some [.int .i64 0,.int .i64 0,.int .i64 0,.int .i64 0,.int .i64 0,.int .i64 0,.str ByteArray.empty,.nil,.int .i64 0]) (by kernel_rfl)
@[method_specs_simp] theorem byt79 : P.bytesOf 79 = 96:=Is.on (fun P=>P.bytesOf 79 = 96) (by kernel_rfl)
@[method_specs_simp] theorem int153 : intT P 153 = some .u64:=Is.on (fun P=>intT P 153 = some .u64) (by kernel_rfl)
@[method_specs_simp] theorem has153 : hasT P 153 = true:=Is.on (fun P=>hasT P 153 = true) (by kernel_rfl)
@[method_specs_simp] theorem int156 : intT P 156 = some .u64:=Is.on (fun P=>intT P 156 = some .u64) (by kernel_rfl)
@[method_specs_simp] theorem has156 : hasT P 156 = true:=Is.on (fun P=>hasT P 156 = true) (by kernel_rfl)
@[method_specs_simp] theorem int206 : intT P 206 = some .u32:=Is.on (fun P=>intT P 206 = some .u32) (by kernel_rfl)
@[method_specs_simp] theorem has206 : hasT P 206 = true:=Is.on (fun P=>hasT P 206 = true) (by kernel_rfl)
@[method_specs_simp] theorem elt208 : elt P 208 = some 3:=Is.on (fun P=>elt P 208 = some 3) (by kernel_rfl)
@[method_specs_simp] theorem seq208 : seqT P 208 = true:=Is.on (fun P=>seqT P 208 = true) (by kernel_rfl)
@[method_specs_simp] theorem mixed : P.follows .mixedOrders = true:=Is.on (fun P=>P.follows .mixedOrders = true) (by kernel_rfl)
end
structure Note where
 num : Int
 frm : Int
 text : ByteArray
def encNote (x : Note) : List V:=[.int .i64 x.num,.int .i64 x.frm,.str x.text]
def szNote (x : Note) (l : Int) : Int:=if IntKind.i64.wrap (l - x.text.size) < 0 then -1 else IntKind.i64.wrap (l - x.text.size)
def eqNote (x y : Note) : Bool:=!(x.num != y.num) && (!(x.frm != y.frm) && (x.text.toList == y.text.toList))
def isB (n a b : Int) : Bool:=decide (n ≥ a) && decide (n ≤ b)
section
variable {P : Program} [Is P]
theorem c75 (n a b : Int) : Con P 82 [.int .i64 n,.int .i64 a,.int .i64 b] (.bool (isB n a b)):=by
 refine Con.of (n:=15) (rs:=[.tmp 6]) (Is.fn Try.func82) rfl (Is.call Try.call82) Try.results82 Try.ntmps82 trivial ?_
 simp only [method_specs_simp,seval]
 refine gB_split (fun h=>?_) (fun h=>?_) <;> simp at h <;> simp [isB,h]
 omega
theorem c74 (n : Int) : Con P 87 [.int .i64 n] (.bool (isB n 0 1000000)):=by
 refine Con.of (n:=5) (rs:=[.tmp 2]) (Is.fn Try.func87) rfl (Is.call Try.call87) Try.results87 Try.ntmps87 trivial ?_
 simp only [method_specs_simp,seval]
 refine clY.con (c75 _ _ _) (by simp only [method_specs_simp]) ?_
 simp only [method_specs_simp,seval]
def szNotes : List Note → Int → Int
 | [],l=>l
 | x :: xs,l=>if szNote x l < 0 then -1 else szNotes xs (szNote x l)
def szNoteS (xs : List Note) (l : Int) : Int:=if IntKind.i64.wrap (l - xs.length) < 0 then -1 else szNotes xs (IntKind.i64.wrap (l - xs.length))
theorem drop_cons {α : Type} {l : List α} {i : Nat} {x : α} (h : l[i]? = some x) : l.drop i = x :: l.drop (i + 1):=by
 have hi:=(Zy.1 h).1
 have hx:=(Zy.1 h).2
 rw [← hx,List.getElem_cons_drop]
theorem wrap_id {n : Int} (h1 : -9223372036854775808 ≤ n) (h2 : n < 9223372036854775808) : IntKind.i64.wrap n = n:=by
 simp [IntKind.wrap,IntKind.bits,IntKind.signed]
 omega
theorem c76 (n : Int) : Con P 78 [.int .i64 n] (.bool (isB n 1 6)):=by
 refine Con.of (n:=5) (rs:=[.tmp 2]) (Is.fn Try.func78) rfl (Is.call Try.call78) Try.results78 Try.ntmps78 trivial ?_
 simp only [method_specs_simp,seval]
 refine clY.con (c75 _ _ _) (by simp only [method_specs_simp]) ?_
 simp only [method_specs_simp,seval]
theorem c78 (n a b : Int) : Con P 80 [.int .i64 n,.int .i64 a,.int .i64 b] (.bool (isB n a b)):=by
 refine Con.of (n:=15) (rs:=[.tmp 6]) (Is.fn Try.func80) rfl (Is.call Try.call80) Try.results80 Try.ntmps80 trivial ?_
 simp only [method_specs_simp,seval]
 refine gB_split (fun h=>?_) (fun h=>?_) <;> simp at h <;> simp [isB,h]
 omega
theorem c79 (n : Int) : Con P 76 [.int .i64 n] (.bool (isB n 1 6)):=by
 refine Con.of (n:=5) (rs:=[.tmp 2]) (Is.fn Try.func76) rfl (Is.call Try.call76) Try.results76 Try.ntmps76 trivial ?_
 simp only [method_specs_simp,seval]
 refine clY.con (c78 _ _ _) (by simp only [method_specs_simp]) ?_
 simp only [method_specs_simp,seval]
theorem c80 (n : Int) : Con P 86 [.int .i64 n] (.bool (isB n 0 1000000)):=by
 refine Con.of (n:=5) (rs:=[.tmp 2]) (Is.fn Try.func86) rfl (Is.call Try.call86) Try.results86 Try.ntmps86 trivial ?_
 simp only [method_specs_simp,seval]
 refine clY.con (c78 _ _ _) (by simp only [method_specs_simp]) ?_
 simp only [method_specs_simp,seval]
def eqNotes : List Note → List Note → Bool
 | x :: xs,y :: ys=>eqNote x y && eqNotes xs ys
 | _,_=>true
def eqNoteS (xs ys : List Note) : Bool:=if (xs.length : Int) != ys.length then false else eqNotes xs ys
def notesOk (nx : Int) : Option Note → List Note → Bool
 | _,[]=>true
 | p,x :: xs=>!(!isB x.num 1 nx || (match p with | none=>false | some y=>decide (y.num ≥ x.num)) || !isB x.frm 1 6 || decide ((x.text.size : Int) > 30)) && notesOk nx (some x) xs
def prevOf (xs : List Note) (k : Nat) : Option Note:=if k = 0 then none else xs[k - 1]?
def specOk (nx : Int) (xs : List Note) : Bool:=!(!isB nx 0 1000000 || decide ((xs.length : Int) > 30)) && notesOk nx none xs
def notesOk2 (nx : Int) : Option Note → List Note → Bool
 | _,[]=>true
 | p,x :: xs=>!(!isB x.num 1 nx || !isB x.frm 1 6 || decide ((x.text.size : Int) > 30) || (match p with | none=>false | some y=>decide (y.num ≥ x.num))) && notesOk2 nx (some x) xs
def implOk (nx : Int) (xs : List Note) : Bool:=notesOk2 nx none xs && (isB nx 0 1000000 && decide ((xs.length : Int) ≤ 30))
end
theorem pure1 {ob : Ob} (h : ob.pure) : ∀ o ∈ [ob],o.pure:=fun o ho=>by
 rw [List.mem_singleton] at ho; rw [ho]; exact h
def mtGo (n : Nat) (out : ByteArray) : ByteArray:=if _h : n = 0 then out else mtGo (n / 10) (strOf [(48 + ((n % 10 : Nat) : Int))] ++ out)
termination_by n
decreasing_by omega
def mText (k : Int) : ByteArray:=if k ≤ 0 then ⟨#[109,48]⟩ else ⟨#[109]⟩ ++ mtGo k.toNat ⟨#[]⟩
section
variable {P : Program} [Is P]
def mNote (k : Int) : Note:=⟨k,k + 1,mText (k + 2)⟩
def mNotes : Int → Nat → List Note
 | _,0=>[]
 | k,n + 1=>mNote k :: mNotes (k + 3) n
end
structure Ent where
 kind : Int
 key : Int
 id : Int
def encEnt (x : Ent) : List V:=[.int .i64 x.kind,.int .i64 x.key,.int .i64 x.id]
def eqEnt (x y : Ent) : Bool:=!(x.kind != y.kind) && (!(x.key != y.key) && !(x.id != y.id))
def eqEnts : List Ent → List Ent → Bool
 | x :: xs,y :: ys=>eqEnt x y && eqEnts xs ys
 | _,_=>true
def eqEntS (xs ys : List Ent) : Bool:=if (xs.length : Int) != ys.length then false else eqEnts xs ys
def mEnt (k : Int) : Ent:=⟨k,k + 1,k + 2⟩
def mEnts : Int → Nat → List Ent
 | _,0=>[]
 | k,n + 1=>mEnt k :: mEnts (k + 3) n
theorem take_all3 {α β : Type} {f : α → β} {l : List α} : Zt l.length (l.map f) = l.map f:=ZD (by simp)
attribute [method_specs_simp] take_all3 decide_false decide_true
def cmpI (a b : Int) : Int:=if a < b then -1 else if a > b then 1 else 0
def orI (a b : Int) : Int:=if a ≠ 0 then a else b
def ordE (x y : Ent) : Int:=orI (cmpI x.kind y.kind) (cmpI x.key y.key)
section
variable {P : Program} [Is P]
theorem c178 (a : Int) : Con P 222 [.int .i64 a] (.bool false):=by
 refine Con.of (n:=6) (rs:=[.tmp 2]) (Is.fn Try.func222) rfl (Is.call Try.call222) Try.results222 Try.ntmps222 trivial ?_
 have e5 : (a != a) = false:=by simp
 simp only [method_specs_simp,seval,e5]
theorem c172 (a b : Int) : Con P 202 [.int .i64 a,.int .i64 b] (.int .i64 (cmpI a b)):=by
 refine Con.of (n:=20) (rs:=[.tmp 4]) (Is.fn Try.func202) rfl (Is.call Try.call202) Try.results202 Try.ntmps202 trivial ?_
 simp only [method_specs_simp,seval]
 refine clY.con (c178 a) (by simp only [method_specs_simp]) ?_
 simp only [method_specs_simp,seval]
 refine clY.con (c178 b) (by simp only [method_specs_simp]) ?_
 simp only [method_specs_simp,seval]
 unfold cmpI
 refine gB_split (fun h=>?_) (fun h=>?_)
 ·simp only [decide_eq_true_eq] at h
  rw [if_pos h]
 ·simp only [decide_eq_false_iff_not,Zb] at h
  rw [if_neg h]
  refine gB_split (fun h=>?_) (fun h=>?_)
  ·simp only [decide_eq_true_eq] at h
   rw [if_pos h]
  ·simp only [decide_eq_false_iff_not,Zb] at h
   rw [if_neg h]
def ordF : V:=.fn 190 [] []
def bsI (xs : List Ent) (x : Ent) (i j : Nat) : Nat :=
 if h : i < j then match xs[(i + j) / 2]? with
  | some y=>if ordE y x < 0 then bsI xs x ((i + j) / 2 + 1) j else bsI xs x i ((i + j) / 2)
  | none=>i
 else i
termination_by j - i
decreasing_by all_goals omega
def isAt (xs : List Ent) (x : Ent) (i : Nat) : Bool:=match xs[i]? with
 | some y=>ordE y x == 0
 | none=>false
end
def putI (xs : List Ent) (x : Ent) : List Ent :=
 if x.id = 0 then (if isAt xs x (bsI xs x 0 xs.length) = true then xs.take (bsI xs x 0 xs.length) ++ xs.drop (bsI xs x 0 xs.length + 1) else xs)
 else if isAt xs x (bsI xs x 0 xs.length) = true then xs.set (bsI xs x 0 xs.length) x else xs.take (bsI xs x 0 xs.length) ++ x :: xs.drop (bsI xs x 0 xs.length)
def lessE (x y : Ent) : Bool:=decide (x.kind < y.kind) || ((x.kind == y.kind) && decide (x.key < y.key))
def entI (least : Int) (x : Ent) : Bool:=isB x.kind 1 6 && (isB x.key 0 6 && isB x.id least 1000000)
def entS (gone : Bool) (x : Ent) : Bool:=isB x.kind 1 6 && (isB x.key 0 6 && (isB x.id 1 1000000 || (gone && (x.id == 0))))
def okAt (ok : Ent → Bool) (xs : List Ent) (i : Nat) (x : Ent) : Bool:=ok x && (i == 0 || match xs[i - 1]? with
 | some p=>lessE p x
 | none=>true)
def okGo (ok : Ent → Bool) (xs : List Ent) : Nat → List Ent → Bool
 | _,[]=>true
 | i,x :: l=>okAt ok xs i x && okGo ok xs (i + 1) l
def okRow (ok : Ent → Bool) (xs : List Ent) : Bool:=okGo ok xs 0 xs
def otherK (x y : Ent) : Bool:=(y.kind != x.kind) || (y.key != x.key)
def without (xs : List Ent) (x : Ent) : List Ent:=xs.filter (otherK x)
def lessN (xs : List Ent) (x : Ent) : Nat:=(xs.takeWhile fun y=>lessE y x).length
def putL (xs : List Ent) (x : Ent) : List Ent:=xs.take (lessN xs x) ++ x :: xs.drop (lessN xs x)
def ltE (x y : Ent) : Prop:=x.kind < y.kind ∨ (x.kind = y.kind ∧ x.key < y.key)
def putS (xs : List Ent) (x : Ent) : List Ent:=if x.id = 0 then without xs x else putL (without xs x) x
end Go.Proofs.Ytnlobbbbgcdiiaa
end
section
section
namespace Go.Gm
def isB (n a b : Int) : Bool:=decide (n ≥ a) && decide (n ≤ b)
theorem isB_iff {n a b : Int} : isB n a b = true ↔ a ≤ n ∧ n ≤ b:=by simp [isB]
structure Ev where
 id : Int
 room : Int
 author : Int
 kind : Int
 key : Int
 n : Int
 text : ByteArray
 prev : List Int
 time : Int
structure Gr where
 room : Int
 events : List Ev
 parked : List Ev
def notLess (p : Option Int) (n : Int) : Bool:=match p with
 | none=>false
 | some q=>decide (q ≥ n)
def incr (lo hi : Int) : Option Int → List Int → Bool
 | _,[]=>true
 | p,n :: l=>isB n lo hi && (!notLess p n && incr lo hi (some n) l)
def incrN (id : Int) : Option Int → List Int → Bool
 | _,[]=>true
 | p,n :: l=>isB n 1 1000000 && (!(n == id) && (!notLess p n && incrN id (some n) l))
theorem incrN_eq (id : Int) : ∀ (l : List Int) (p : Option Int),incrN id p l = (incr 1 1000000 p l && !l.contains id)
 | [],p=>by simp [incrN,incr]
 | n :: l,p=>by
   rw [incrN,incr,incrN_eq id l,YI]
   have e : (id == n) = (n == id):=by
    by_cases h : id = n
    ·subst h; rfl
    ·rw [beq_eq_false_iff_ne.2 h,beq_eq_false_iff_ne.2 (fun q=>h q.symm)]
   rw [e]
   cases isB n 1 1000000 <;> cases (n == id) <;> cases notLess p n <;> cases incr 1 1000000 (some n) l <;> cases l.contains id <;> rfl
def prevR (l : List Int) (id : Int) : Bool:=decide ((l.length : Int) ≤ 4) && incrN id none l
def bodyR (e : Ev) : Bool :=
 if e.kind = 1 then e.key == 0 && (e.n == 0 && ((e.text.size : Int) == 0))
 else if e.kind = 2 then isB e.key 1 6 && (isB e.n 1 4 && ((e.text.size : Int) == 0))
 else if e.kind = 3 then isB e.key 1 6 && (isB e.n 0 100 && ((e.text.size : Int) == 0))
 else if e.kind = 4 then e.key == 0 && (e.n == 0 && decide ((e.text.size : Int) ≤ 30))
 else if e.kind = 5 then e.key == 0 && (isB e.n 1 2 && ((e.text.size : Int) == 0))
 else if e.kind = 6 then e.key == 0 && (isB e.n 1 3 && ((e.text.size : Int) == 0))
 else if e.kind = 7 then e.key == 0 && (e.n == 0 && isB e.text.size 1 30)
 else e.kind == 8 && (isB e.key 1 1000000 && (e.n == 0 && ((e.text.size : Int) == 0)))
def evRight (e : Ev) : Bool :=
 isB e.id 1 1000000 && (isB e.room 1 3 && (isB e.author 1 6 && (isB e.time 0 1000000 && (prevR e.prev e.id && (((e.kind == 1) == ((e.prev.length : Int) == 0)) && bodyR e)))))
def hasId (l : List Ev) (id : Int) : Bool:=l.any (fun e=>e.id == id)
def allIn (l : List Ev) (e : Ev) : Bool:=e.prev.all (hasId l)
def rowFrom (room : Int) : Option Int → List Ev → Bool
 | _,[]=>true
 | p,e :: l=>evRight e && (e.room == room && (!notLess p e.id && rowFrom room (some e.id) l))
def rowR (l : List Ev) (room most : Int) : Bool:=decide ((l.length : Int) ≤ most) && rowFrom room none l
def Srt (l : List Ev) : Prop:=l.Pairwise fun a b=>a.id < b.id
theorem rowFrom_srt {room : Int} : ∀ {l : List Ev} {p : Option Int},rowFrom room p l = true → Srt l ∧ (∀ e ∈ l,evRight e = true ∧ e.room = room ∧ ∀ q,p = some q → q < e.id)
 | [],p,_=>⟨List.Pairwise.nil,fun e h=>by cases h⟩
 | e :: l,p,h=>by
   simp only [rowFrom,Yo,Yp,beq_iff_eq] at h
   obtain ⟨h1,h2,h3,h4⟩:=h
   obtain ⟨k1,k2⟩:=rowFrom_srt h4
   have hp : ∀ q,p = some q → q < e.id:=by
    rintro q rfl
    simp [notLess] at h3
    exact h3
   refine ⟨ZI.2 ⟨fun a ha=>(k2 a ha).2.2 _ rfl,k1⟩,?_⟩
   intro a ha
   rcases Zz.1 ha with rfl | ha
   ·exact ⟨h1,h2,hp⟩
   ·obtain ⟨g1,g2,g3⟩:=k2 a ha
    exact ⟨g1,g2,fun q hq=>by have:=hp q hq; have:=g3 _ rfl; omega⟩
def posE (l : List Ev) (id : Int) : Nat:=(l.takeWhile fun e=>decide (e.id < id)).length
theorem takeWhile_length_le {α : Type} (p : α → Bool) : ∀ l : List α,(l.takeWhile p).length ≤ l.length
 | []=>Zl _
 | x :: l=>by
   rw [Yf]
   split
   ·simp only [ZL]; have:=takeWhile_length_le p l; omega
   ·simp
theorem posE_le (l : List Ev) (id : Int) : posE l id ≤ l.length:=takeWhile_length_le _ l
theorem takeWhile_in {α : Type} (p : α → Bool) : ∀ (l : List α) (k : Nat) (x : α),k < (l.takeWhile p).length → l[k]? = some x → p x = true
 | [],k,x,h,_=>by simp at h
 | y :: l,k,x,h,hx=>by
   rw [Yf] at h
   split at h
   ·rename_i hy
    cases k with
    | zero=>simp at hx; rw [← hx]; exact hy
    | succ k=>simp at h hx; exact takeWhile_in p l k x h hx
   ·simp at h
theorem takeWhile_end {α : Type} (p : α → Bool) : ∀ (l : List α) (x : α),l[(l.takeWhile p).length]? = some x → p x = false
 | [],x,hx=>by simp at hx
 | y :: l,x,hx=>by
   rw [Yf] at hx
   split at hx
   ·simp at hx; exact takeWhile_end p l x hx
   ·rename_i hy
    simp at hx; rw [← hx]; simpa using hy
def bsP {α : Type} (p : α → Bool) (xs : List α) (i j : Nat) : Nat :=
 if h : i < j then match xs[(i + j) / 2]? with
  | some y=>if p y then bsP p xs ((i + j) / 2 + 1) j else bsP p xs i ((i + j) / 2)
  | none=>i
 else i
termination_by j - i
decreasing_by all_goals omega
theorem bsP_spec {α : Type} {p : α → Bool} {xs : List α} (hm : ∀ (a b : Nat) (x y : α),a ≤ b → xs[a]? = some x → xs[b]? = some y → p y = true → p x = true) :
  ∀ (n i j : Nat),j - i = n → i ≤ j → j ≤ xs.length → (∀ k x,k < i → xs[k]? = some x → p x = true) → (∀ k x,j ≤ k → xs[k]? = some x → p x = false) → bsP p xs i j = (xs.takeWhile p).length
 | n,i,j,hn,hij,hj,h1,h2=>by
   rw [bsP]
   by_cases h : i < j
   ·rw [dif_pos h]
    have hh : (i + j) / 2 < xs.length:=by omega
    obtain ⟨y,hy⟩ : ∃ y,xs[(i + j) / 2]? = some y:=⟨_,Zc hh⟩
    rw [hy]
    simp only
    cases hp : p y with
    | true =>
     simp only [if_true]
     refine bsP_spec hm (j - ((i + j) / 2 + 1)) _ _ rfl (by omega) hj ?_ h2
     intro k x hk hx
     exact hm k ((i + j) / 2) x y (by omega) hx hy hp
    | false =>
     simp only [if_false,Bool.false_eq_true]
     refine bsP_spec hm ((i + j) / 2 - i) _ _ rfl (by omega) (by omega) h1 ?_
     intro k x hk hx
     cases hpx : p x with
     | false=>rfl
     | true=>rw [hm _ k y x hk hy hx hpx] at hp; cases hp
   ·rw [dif_neg h]
    have hi : i = j:=by omega
    subst hi
    rcases YJ i (xs.takeWhile p).length with h3 | h3 | h3
    ·have hl:=takeWhile_length_le p xs
     obtain ⟨y,hy⟩ : ∃ y,xs[i]? = some y:=⟨_,Zc (by omega)⟩
     have:=takeWhile_in p xs i y h3 hy
     rw [h2 i y (Zl _) hy] at this
     cases this
    ·exact h3
    ·obtain ⟨y,hy⟩ : ∃ y,xs[(xs.takeWhile p).length]? = some y:=⟨_,Zc (by omega)⟩
     have:=takeWhile_end p xs y hy
     rw [h1 _ y h3 hy] at this
     cases this
termination_by n=>n
decreasing_by all_goals omega
theorem Srt.get {l : List Ev} (h : Srt l) {a b : Nat} {x y : Ev} (hab : a < b) (hx : l[a]? = some x) (hy : l[b]? = some y) : x.id < y.id:=by
 obtain ⟨h1,rfl⟩:=Zy.1 hx
 obtain ⟨h2,rfl⟩:=Zy.1 hy
 exact YK.1 h a b h1 h2 hab
theorem Srt.mono {l : List Ev} (h : Srt l) (id : Int) (a b : Nat) (x y : Ev) (hab : a ≤ b) (hx : l[a]? = some x) (hy : l[b]? = some y) (hp : decide (y.id < id) = true) : decide (x.id < id) = true:=by
 simp only [decide_eq_true_eq] at hp ⊢
 rcases Nat.lt_or_ge a b with h1 | h1
 ·have:=h.get h1 hx hy; omega
 ·have : a = b:=by omega
  subst this
  rw [hx] at hy; cases hy; exact hp
theorem bsE {l : List Ev} (h : Srt l) (id : Int) : bsP (fun e=>decide (e.id < id)) l 0 l.length = posE l id :=
 bsP_spec (fun a b x y=>h.mono id a b x y) _ _ _ rfl (Zh _) (Zl _) (fun k x hk=>absurd hk (Nat.not_lt_zero _)) (fun k x hk hx=>by rw [Yq hk] at hx; cases hx)
def isAtE (l : List Ev) (id : Int) (i : Nat) : Bool:=match l[i]? with
 | some e=>e.id == id
 | none=>false
theorem isAtE_has {l : List Ev} (h : Srt l) (id : Int) : isAtE l id (posE l id) = hasId l id:=by
 unfold isAtE hasId
 cases hx : l[posE l id]? with
 | none =>
  simp only
  symm
  rw [Yg]
  intro e he hid
  obtain ⟨k,hk⟩:=Yr he
  have hkl:=(Zy.1 hk).1
  have h1 : posE l id = l.length:=by have:=posE_le l id; have:=List.getElem?_eq_none_iff.1 hx; omega
  have:=takeWhile_in _ l k e (by rw [show (l.takeWhile fun e=>decide (e.id < id)).length = posE l id from rfl,h1]; exact hkl) hk
  simp at this hid
  omega
 | some e =>
  simp only
  cases hb : (e.id == id) with
  | true =>
   symm
   rw [List.any_eq_true]
   exact ⟨e,ZG hx,hb⟩
  | false =>
   symm
   rw [Yg]
   intro f hf hid
   obtain ⟨k,hk⟩:=Yr hf
   have he:=takeWhile_end _ l e hx
   simp at he hid hb
   rcases YJ k (posE l id) with h3 | h3 | h3
   ·have:=takeWhile_in _ l k f h3 hk
    simp at this; omega
   ·subst h3; rw [hx] at hk; cases hk; omega
   ·have:=h.get h3 hx hk; omega
def fidE (l : List Ev) (id : Int) : Nat:=l.findIdx fun e=>e.id == id
theorem hasId_iff {l : List Ev} {id : Int} : hasId l id = true ↔ ∃ e ∈ l,e.id = id:=by simp [hasId]
theorem fid_pos : ∀ {l : List Ev},Srt l → ∀ {id : Int},hasId l id = true → fidE l id = posE l id
 | [],_,id,h=>by simp [hasId] at h
 | e :: l,hs,id,h=>by
   have hs2:=ZI.1 hs
   unfold fidE posE
   rw [ZQ,Yf]
   by_cases he : e.id = id
   ·simp [he]
   ·have h2 : hasId l id = true:=by
     obtain ⟨x,hx,hxi⟩:=hasId_iff.1 h
     rcases Zz.1 hx with rfl | hx
     ·exact absurd hxi he
     ·exact hasId_iff.2 ⟨x,hx,hxi⟩
    obtain ⟨x,hx,hxi⟩:=hasId_iff.1 h2
    have hlt:=hs2.1 x hx
    have hd : decide (e.id < id) = true:=by simp; omega
    rw [beq_eq_false_iff_ne.2 he,hd]
    have:=fid_pos hs2.2 h2
    simp only [fidE,posE] at this
    simp [this]
theorem fid_lt {l : List Ev} {id : Int} (h : hasId l id = true) : fidE l id < l.length:=by
 obtain ⟨e,he,hi⟩:=hasId_iff.1 h
 exact List.findIdx_lt_length_of_exists ⟨e,he,by simp [hi]⟩
theorem fid_get {l : List Ev} {id : Int} (h : hasId l id = true) : ∃ e,l[fidE l id]? = some e ∧ e.id = id:=by
 have hl:=fid_lt h
 refine ⟨l[fidE l id],Zc hl,?_⟩
 have : ((l[fidE l id]).id == id) = true:=List.findIdx_getElem (p:=fun e : Ev=>e.id == id) (w:=hl)
 simpa using this
def dAt (evs : List Ev) (d : List Int) (id : Int) : Int:=d.getD (fidE evs id) 0
def ownD (evs : List Ev) (d : List Int) (e : Ev) : Int:=if e.prev.all (fun p=>decide (dAt evs d p > 0)) then (e.prev.map (dAt evs d)).foldl (fun a b=>if b > a then b else a) 0 + 1 else 0
def stepD (evs : List Ev) (d : List Int) (i : Nat) : List Int:=if d.getD i 0 > 0 then d else match evs[i]? with
 | some e=>if ownD evs d e > 0 then d.set i (ownD evs d e) else d
 | none=>d
def passD (evs : List Ev) (d : List Int) : List Int:=(Ys evs.length).foldl (stepD evs) d
def iterD (evs : List Ev) : Nat → List Int → List Int
 | 0,d=>d
 | k + 1,d=>iterD evs k (passD evs d)
def depthsE (evs : List Ev) : List Int:=iterD evs evs.length (Zj evs.length 0)
def allPos (d : List Int) : Bool:=d.all fun x=>!(x == 0)
def grRight (g : Gr) : Bool :=
 isB g.room 1 3 && (rowR g.events g.room 60 && (rowR g.parked g.room 20 && (g.events.all (fun e=>allIn g.events e && !hasId g.parked e.id) && (g.parked.all (fun e=>!allIn g.events e) && allPos (depthsE g.events)))))
end Go.Gm
end
section
namespace Go.Gm
def zer (d : List Int) : Nat:=d.countP fun x=>x == 0
theorem zer_le (d : List Int) : zer d ≤ d.length:=List.countP_le_length
theorem zer_set : ∀ {d : List Int} {i : Nat} {x : Int},d[i]? = some 0 → x ≠ 0 → zer (d.set i x) + 1 = zer d
 | [],i,x,h,_=>by simp at h
 | y :: d,0,x,h,hx=>by
   simp at h; subst h
   simp [zer,Yt,List.countP_cons,hx]
 | y :: d,i + 1,x,h,hx=>by
   have:=zer_set (d:=d) (i:=i) (by simpa using h) hx
   simp only [zer,YL,List.countP_cons] at this ⊢
   omega
theorem zer_rep (n : Nat) : zer (Zj n 0) = n:=by simp [zer,List.countP_replicate]
theorem allPos_iff {d : List Int} : allPos d = decide (zer d = 0):=by
 rw [ZM]
 simp [allPos,zer,YM]
structure OkD (evs : List Ev) (d : List Int) : Prop where
 len : d.length = evs.length
 nn : ∀ x ∈ d,0 ≤ x
theorem OkD.zero (evs : List Ev) : OkD evs (Zj evs.length 0):=⟨by simp,fun x hx=>by rw [Yu hx]; exact Yh _⟩
theorem getD_nn {d : List Int} (h : ∀ x ∈ d,0 ≤ x) (i : Nat) : 0 ≤ d.getD i 0:=by
 rw [Zp]
 cases hx : d[i]? with
 | none=>simp
 | some x=>exact h x (ZG hx)
theorem mem_set_cases {α : Type} {l : List α} {i : Nat} {x y : α} (h : y ∈ l.set i x) : y ∈ l ∨ y = x:=List.mem_or_eq_of_mem_set h
theorem foldMax_succ : ∀ (l : List Int) (a : Int),l.foldl (fun o x=>if x + 1 > o then x + 1 else o) (a + 1) = l.foldl (fun a b=>if b > a then b else a) a + 1
 | [],a=>rfl
 | b :: l,a=>by
   rw [ZW,ZW,← foldMax_succ l]
   congr 1
   by_cases h : b > a
   ·rw [if_pos h,if_pos (by omega)]
   ·rw [if_neg h,if_neg (by omega)]
theorem step_ok {evs : List Ev} {d : List Int} (h : OkD evs d) (i : Nat) : OkD evs (stepD evs d i):=by
 unfold stepD
 split
 ·exact h
 ·split
  ·split
   ·rename_i hp
    refine ⟨by rw [ZJ]; exact h.len,fun x hx=>?_⟩
    rcases mem_set_cases hx with hx | hx
    ·exact h.nn x hx
    ·omega
   ·exact h
  ·exact h
theorem step_zer {evs : List Ev} {d : List Int} (h : OkD evs d) (i : Nat) : stepD evs d i = d ∨ zer (stepD evs d i) + 1 = zer d:=by
 unfold stepD
 split
 ·exact .inl rfl
 ·rename_i h0
  split
  ·rename_i e he
   split
   ·rename_i hp
    refine .inr (zer_set ?_ (by omega))
    have hi : i < d.length:=by rw [h.len]; exact (Zy.1 he).1
    have:=getD_nn h.nn i
    have h1 : d.getD i 0 = 0:=by omega
    rw [Zp,Zc hi] at h1
    rw [Zc hi]
    simpa using h1
   ·exact .inl rfl
  ·exact .inl rfl
def passK (evs : List Ev) (d : List Int) (k : Nat) : List Int:=(Ys k).foldl (stepD evs) d
theorem passK_zero (evs : List Ev) (d : List Int) : passK evs d 0 = d:=rfl
theorem passK_succ (evs : List Ev) (d : List Int) (k : Nat) : passK evs d (k + 1) = stepD evs (passK evs d k) k:=by
 unfold passK
 rw [List.range_succ,List.foldl_append]
 rfl
theorem passK_ok {evs : List Ev} {d : List Int} (h : OkD evs d) : ∀ k,OkD evs (passK evs d k)
 | 0=>h
 | k + 1=>by rw [passK_succ]; exact step_ok (passK_ok h k) k
theorem passK_zer {evs : List Ev} {d : List Int} (h : OkD evs d) : ∀ k,passK evs d k = d ∨ zer (passK evs d k) < zer d
 | 0=>.inl rfl
 | k + 1=>by
   rw [passK_succ]
   have h1:=step_zer (passK_ok h k) k
   rcases passK_zer h k with h2 | h2
   ·rw [h2] at h1 ⊢
    rcases h1 with h1 | h1
    ·exact .inl h1
    ·exact .inr (by omega)
   ·rcases h1 with h1 | h1
    ·rw [h1]; exact .inr h2
    ·exact .inr (by omega)
theorem iter_fix {evs : List Ev} {d : List Int} (h : passD evs d = d) : ∀ k,iterD evs k d = d
 | 0=>rfl
 | k + 1=>by rw [iterD,h]; exact iter_fix h k
theorem iter_add (evs : List Ev) : ∀ (j k : Nat) (d : List Int),iterD evs (j + k) d = iterD evs k (iterD evs j d)
 | 0,k,d=>by rw [Yv]; rfl
 | j + 1,k,d=>by rw [show j + 1 + k = (j + k) + 1 by omega,iterD,iter_add evs j k,iterD]
theorem iter_succ (evs : List Ev) (j : Nat) (d : List Int) : iterD evs (j + 1) d = passD evs (iterD evs j d):=by
 rw [iter_add evs j 1]; rfl
theorem iter_ok {evs : List Ev} : ∀ (k : Nat) {d : List Int},OkD evs d → OkD evs (iterD evs k d)
 | 0,d,h=>h
 | k + 1,d,h=>by rw [iterD]; exact iter_ok k (passK_ok h _)
theorem depths_ok (evs : List Ev) : OkD evs (depthsE evs):=iter_ok _ (OkD.zero evs)
theorem depths_of {evs : List Ev} {d : List Int} {j : Nat} (h1 : d = iterD evs j (Zj evs.length 0)) (h2 : j + zer d ≤ evs.length) (h3 : passD evs d = d) : depthsE evs = d:=by
 unfold depthsE
 rw [show evs.length = j + (evs.length - j) by omega,iter_add,show j + (evs.length - j) = evs.length by omega,← h1,iter_fix h3]
theorem pass_done {evs : List Ev} {d : List Int} (h : OkD evs d) (hz : zer d = 0) : passD evs d = d:=by
 have key : ∀ k,k ≤ evs.length → passK evs d k = d:=by
  intro k
  induction k with
  | zero=>intro _; rfl
  | succ k ih =>
   intro hk
   rw [passK_succ,ih (by omega)]
   unfold stepD
   rw [if_pos]
   have hi : k < d.length:=by rw [h.len]; omega
   have h0 : d[k] ≠ 0:=by
    have:=YM.1 hz d[k] (Zn hi)
    simpa using this
   have:=h.nn d[k] (Zn hi)
   rw [Zp,Zc hi]
   simp only [Option.getD_some]
   omega
 exact key _ (Zl _)
def BdD (evs : List Ev) (d : List Int) : Prop:=∀ x ∈ d,x ≤ (evs.length : Int) - zer d
theorem foldMax_le {B : Int} : ∀ (l : List Int) (a : Int),a ≤ B → (∀ x ∈ l,x ≤ B) → l.foldl (fun a b=>if b > a then b else a) a ≤ B
 | [],a,h,_=>h
 | b :: l,a,h,hl=>by
   rw [ZW]
   refine foldMax_le l _ ?_ fun x hx=>hl x (ZX _ hx)
   split
   ·exact hl b ZN
   ·exact h
theorem getD_bd {B : Int} {d : List Int} (h : ∀ x ∈ d,x ≤ B) (hB : 0 ≤ B) (i : Nat) : d.getD i 0 ≤ B:=by
 rw [Zp]
 cases hx : d[i]? with
 | none=>simpa using hB
 | some x=>exact h x (ZG hx)
theorem own_le {evs : List Ev} {d : List Int} (h : OkD evs d) (hb : BdD evs d) (e : Ev) : ownD evs d e ≤ (evs.length : Int) - zer d + 1:=by
 have hz:=zer_le d
 have hl:=h.len
 unfold ownD
 split
 ·have:=foldMax_le (B:=(evs.length : Int) - zer d) (e.prev.map (dAt evs d)) 0 (by omega) (fun x hx=>by
   obtain ⟨p,_,rfl⟩:=ZR.1 hx
   exact getD_bd hb (by omega) _)
  omega
 ·omega
theorem BdD.zero (evs : List Ev) : BdD evs (Zj evs.length 0):=fun x hx=>by
 rw [Yu hx,zer_rep]
 omega
theorem step_bd {evs : List Ev} {d : List Int} (h : OkD evs d) (hb : BdD evs d) (i : Nat) : BdD evs (stepD evs d i):=by
 have hs:=step_zer h i
 unfold stepD at hs ⊢
 split
 ·exact hb
 ·rename_i h0
  rw [if_neg h0] at hs
  split
  ·rename_i e he
   rw [he] at hs
   simp only at hs
   split
   ·rename_i hp
    rw [if_pos hp] at hs
    have hz : zer (d.set i (ownD evs d e)) + 1 = zer d:=by
     rcases hs with hs | hs
     ·exfalso
      have hi : i < d.length:=by rw [h.len]; exact (Zy.1 he).1
      have h1 : (d.set i (ownD evs d e)).getD i 0 = ownD evs d e:=by simp [Zp,hi]
      rw [hs] at h1
      omega
     ·exact hs
    intro x hx
    have:=own_le h hb e
    rcases mem_set_cases hx with hx | hx
    ·have:=hb x hx; omega
    ·omega
   ·exact hb
  ·exact hb
theorem passK_bd {evs : List Ev} {d : List Int} (h : OkD evs d) (hb : BdD evs d) : ∀ k,BdD evs (passK evs d k)
 | 0=>hb
 | k + 1=>by rw [passK_succ]; exact step_bd (passK_ok h k) (passK_bd h hb k) k
theorem ownD_fold (evs : List Ev) (d : List Int) (e : Ev) : ownD evs d e = if e.prev.all (fun p=>decide (dAt evs d p > 0)) then e.prev.foldl (fun o p=>if dAt evs d p + 1 > o then dAt evs d p + 1 else o) 1 else 0:=by
 unfold ownD
 split
 ·rw [← foldMax_succ,List.foldl_map]; rfl
 ·rfl
theorem dAt_get {evs : List Ev} {d : List Int} (hs : Srt evs) (h : OkD evs d) {p : Int} (hp : hasId evs p = true) : d[posE evs p]? = some (dAt evs d p):=by
 have h1:=fid_pos hs hp
 have h2:=fid_lt hp
 have h3 : fidE evs p < d.length:=by rw [h.len]; exact h2
 unfold dAt
 rw [← h1,Zc h3,Zp,Zc h3]
 rfl
end Go.Gm
end
section
namespace Go.Gm
structure Str {α : Type} (T : α → α → Prop) : Prop where
 irr : ∀ x,¬ T x x
 tr : ∀ x y z,T x y → T y z → T x z
theorem sorted_one {α : Type} {T : α → α → Prop} (h : Str T) : ∀ {l1 l2 : List α},l1.Perm l2 → l1.Pairwise T → l2.Pairwise T → l1 = l2
 | [],l2,hp,_,_=>by rw [List.Perm.nil_eq hp]
 | x :: l1,[],hp,_,_=>by have:=hp.length_eq; simp at this
 | x :: l1,y :: l2,hp,h1,h2=>by
   have a1:=ZI.1 h1
   have a2:=ZI.1 h2
   have hxy : x = y:=by
    have hx : x ∈ y :: l2:=hp.subset ZN
    have hy : y ∈ x :: l1:=hp.symm.subset ZN
    rcases Zz.1 hx with h3 | h3
    ·exact h3
    ·rcases Zz.1 hy with h4 | h4
     ·exact h4.symm
     ·exact absurd (h.tr _ _ _ (a2.1 x h3) (a1.1 y h4)) (h.irr y)
   subst hxy
   rw [sorted_one h (List.perm_cons x |>.1 hp) a1.2 a2.2]
theorem halves {α : Type} {T : α → α → Prop} (h : Str T) {L1 L2 R1 R2 Y1 Y2 : List α} (hL : (L1 ++ L2).Pairwise T) (hR : (R1 ++ R2).Pairwise T)
  (c1 : ∀ x ∈ L1,∀ y ∈ R2,T x y) (c2 : ∀ x ∈ R1,∀ y ∈ L2,T x y) (p1 : Y1.Perm (L1 ++ R1)) (p2 : Y2.Perm (L2 ++ R2)) (s1 : Y1.Pairwise T) (s2 : Y2.Pairwise T) :
  (Y1 ++ Y2).Pairwise T ∧ (Y1 ++ Y2).Perm ((L1 ++ L2) ++ (R1 ++ R2)):=by
 constructor
 ·refine Zv.2 ⟨s1,s2,fun x hx y hy=>?_⟩
  have hx:=p1.subset hx
  have hy:=p2.subset hy
  rcases ZS.1 hx with hx | hx <;> rcases ZS.1 hy with hy | hy
  ·exact (Zv.1 hL).2.2 x hx y hy
  ·exact c1 x hx y hy
  ·exact c2 x hx y hy
  ·exact (Zv.1 hR).2.2 x hx y hy
 ·refine (p1.append p2).trans ?_
  have e1 : ((L1 ++ R1) ++ (L2 ++ R2)).Perm (L1 ++ (L2 ++ (R1 ++ R2))):=by
   rw [Zf]
   refine List.Perm.append_left L1 ?_
   rw [← Zf,← Zf]
   exact List.Perm.append_right R2 List.perm_append_comm
  simpa only [Zf] using e1
end Go.Gm
end
end
section
namespace Go.Proofs.Ytnlobbbbgcdiiaa
open Go.Pm
open Go.Gm (Ev Gr)
def encI (n : Int) : List V:=[.int .i64 n]
def encEv (e : Ev) : List V:=[.int .i64 e.id,.int .i64 e.room,.int .i64 e.author,.int .i64 e.kind,.int .i64 e.key,.int .i64 e.n,.str e.text,.sl 1 (e.prev.map encI),.int .i64 e.time]
def encGr (g : Gr) : List V:=[.int .i64 g.room,.sl 9 (g.events.map encEv),.sl 9 (g.parked.map encEv)]
@[method_specs_simp] theorem encI_refs (ok : Nat → Prop) (xs : List Int) : Refss ok (xs.map encI) = True:=eq_true (Refss_map fun a=>by simp [encI,Refs,Ref])
@[method_specs_simp] theorem encI_rens (ρ : Nat → Nat) (xs : List Int) : renss ρ (xs.map encI) = xs.map encI:=renss_map fun a=>by simp [encI,Refs,Ref]
theorem encEv_ref1 (ok : Nat → Prop) (e : Ev) : Refs ok (encEv e):=by simp only [encEv,Refs,Ref,encI_refs,and_self]
@[method_specs_simp] theorem encEv_refs1 (ok : Nat → Prop) (e : Ev) : Refs ok (encEv e) = True:=eq_true (encEv_ref1 ok e)
@[method_specs_simp] theorem encEv_refs (ok : Nat → Prop) (xs : List Ev) : Refss ok (xs.map encEv) = True:=eq_true (Refss_map fun a=>encEv_ref1 ok a)
@[method_specs_simp] theorem encEv_rens (ρ : Nat → Nat) (xs : List Ev) : renss ρ (xs.map encEv) = xs.map encEv:=renss_map fun a=>encEv_ref1 _ a
theorem encGr_ref1 (ok : Nat → Prop) (g : Gr) : Refs ok (encGr g):=by simp only [encGr,Refs,Ref,encEv_refs,and_self]
@[method_specs_simp] theorem encGr_refs1 (ok : Nat → Prop) (g : Gr) : Refs ok (encGr g) = True:=eq_true (encGr_ref1 ok g)
theorem flat_ints (xs : List Int) : Flatss (xs.map encI):=by
 induction xs with
 | nil=>trivial
 | cons x xs ih=>exact ⟨⟨trivial,trivial⟩,ih⟩
theorem pure_ints (lv : Bool) (xs : List Int) : (Ob.arr lv 1 (xs.map encI)).pure:=Refss_map fun a=>by simp [encI,Refs,Ref]
theorem map_getE {α β : Type} (f : α → β) {l : List α} {i : Nat} {x : α} (h : l[i]? = some x) : (l.map f)[i]? = some (f x):=by rw [Zg,h]; rfl
theorem take_set_get {α : Type} {xs ys : List α} {k : Nat} {x : α} (hx : xs[k]? = some x) (hr : ys.take k = xs.take k) (hk : k < ys.length) : (ys.set k x).take (k + 1) = xs.take (k + 1):=by
 apply YN
 intro i
 have:=congrArg (fun l=>l[i]?) hr
 simp only [YO,List.getElem?_set] at this ⊢
 by_cases e : k = i
 ·subst e; simp [hx,hk]
 ·split
  ·rw [if_pos (by omega),if_pos (by omega)] at this
   simpa [e] using this
  ·rfl
def sb (l w : Int) : Int:=if l - w < 0 then -1 else l - w
theorem sb_sb {l a b : Int} (h : 0 ≤ l - a) (hb : 0 ≤ b) : sb (l - a) b = sb l (a + b):=by unfold sb; rw [show l - a - b = l - (a + b) by omega]
theorem sb_neg {l a b : Int} (h : l - a < 0) (hb : 0 ≤ b) : sb l (a + b) = -1:=by unfold sb; rw [if_pos (by omega)]
theorem sb_lt {l w : Int} (h : l - w < 0) : sb l w = -1:=by unfold sb; rw [if_pos h]
theorem sb_ge {l w : Int} (h : 0 ≤ l - w) : sb l w = l - w:=by unfold sb; rw [if_neg (by omega)]
def wE (e : Ev) : Int:=e.text.size + e.prev.length
def wEs : List Ev → Int
 | []=>0
 | e :: l=>wE e + wEs l
theorem wE_nn (e : Ev) : 0 ≤ wE e:=by unfold wE; omega
theorem wEs_nn : ∀ l : List Ev,0 ≤ wEs l
 | []=>Yh _
 | e :: l=>by have:=wE_nn e; have:=wEs_nn l; unfold wEs; omega
def wG (g : Gr) : Int:=(g.events.length + wEs g.events) + (g.parked.length + wEs g.parked)
def EvOK (e : Ev) : Prop:=e.text.size < 2 ^ 50 ∧ e.prev.length < 2 ^ 44
def EvsOK (l : List Ev) : Prop:=l.length * 96 ≤ 2 ^ 47 ∧ ∀ e ∈ l,EvOK e
def GrOK (g : Gr) : Prop:=EvsOK g.events ∧ EvsOK g.parked
section
variable {P : Program} [Is P]
theorem c_szInt64S (xs : List Int) (l : Int) (h0 : 0 ≤ l) (h1 : l ≤ 1048576) (hx : xs.length < 2 ^ 62) : Con P 117 [.sl 1 (xs.map encI),.int .i64 l] (.int .i64 (sb l xs.length)):=by
 refine Con.of (n:=12) (rs:=[.tmp 4]) (Is.fn Try.func117) rfl (Is.call Try.call117) Try.results117 Try.ntmps117 trivial ?_
 simp only [method_specs_simp,seval]
 rw [wrap_id (by omega) (by omega)]
 refine gB_split (fun h=>?_) (fun h=>?_)
 ·simp only [decide_eq_true_eq] at h; rw [sb_lt h]
 ·simp only [decide_eq_false_iff_not,Zb] at h; rw [sb_ge (by omega)]
theorem c_szEvent (e : Ev) (l : Int) (h0 : 0 ≤ l) (h1 : l ≤ 1048576) (he : EvOK e) : Con P 41 [.agg (encEv e),.int .i64 l] (.int .i64 (sb l (wE e))):=by
 have he1:=he.1
 have he2:=he.2
 have w1 : IntKind.i64.wrap (l - e.text.size) = l - e.text.size:=wrap_id (by omega) (by omega)
 refine Con.of (n:=19) (rs:=[.tmp 4]) (Is.fn Try.func41) rfl (Is.call Try.call41) Try.results41 Try.ntmps41 trivial ?_
 simp only [method_specs_simp,seval]
 simp only [method_specs_simp,seval,encEv,w1]
 refine gB_split (fun h=>?_) (fun h=>?_)
 ·simp only [decide_eq_true_eq] at h; rw [wE,sb_neg h (by omega)]
 ·simp only [decide_eq_false_iff_not,Zb] at h
  refine clY.con (c_szInt64S e.prev (l - e.text.size) (by omega) (by omega) (by omega)) (by simp only [method_specs_simp]) ?_
  simp only [method_specs_simp,seval]
  rw [sb_sb (by omega) (by omega),← wE]
  refine gB_split (fun h=>?_) (fun h=>?_)
  ·simp only [decide_eq_true_eq] at h
   have : sb l (wE e) = -1:=by unfold sb at h ⊢; split at h <;> simp_all
   rw [this]
  ·trivial
theorem c_szEventS (xs : List Ev) (l : Int) (h0 : 0 ≤ l) (h1 : l ≤ 1048576) (hx : EvsOK xs) : Con P 105 [.sl 9 (xs.map encEv),.int .i64 l] (.int .i64 (sb l (xs.length + wEs xs))):=by
 have hx1:=hx.1
 have w1 : IntKind.i64.wrap (l - xs.length) = l - xs.length:=wrap_id (by omega) (by omega)
 refine Con.of (n:=27) (rs:=[.tmp 4]) (Is.fn Try.func105) rfl (Is.call Try.call105) Try.results105 Try.ntmps105 trivial ?_
 simp only [method_specs_simp,seval]
 rw [w1]
 refine gB_split (fun h=>?_) (fun h=>?_)
 ·simp only [decide_eq_true_eq] at h; rw [sb_neg h (wEs_nn xs)]
 ·simp only [decide_eq_false_iff_not,Zb] at h
  refine SW.while (A:=Nat × Int) (fun a=>⟨pad 27 [.sl 9 (xs.map encEv),.int .i64 a.2,.junk,.junk,.int .i64 0,.int .i64 a.1],[],[]⟩) (fun a=>xs.length - a.1)
   (fun a=>a.1 ≤ xs.length ∧ 0 ≤ a.2 ∧ a.2 ≤ 1048576 ∧ sb l (xs.length + wEs xs) = sb a.2 (wEs (xs.drop a.1))) (0,l - xs.length) [] ⟨Zh _,by simp only; omega,by simp only; omega,?_⟩ ?_ ?_
  ·simp only [List.drop_zero]; rw [sb_sb (by omega) (wEs_nn xs)]
  ·simp only [mvcgen_simp,method_specs_simp,seval]
  ·rintro ⟨k,r⟩ ⟨hk,hr0,hr1,hr⟩
   simp only at hk hr0 hr1 hr
   rw [hr]
   refine CW.sound ?_
   simp only [method_specs_simp,seval]
   refine gB_split (fun h=>?_) (fun h=>?_)
   ·simp only [decide_eq_true_eq,Za] at h
    have hxk : xs[k]? = some xs[k]:=Zc h
    have hOK:=hx.2 _ (Zn h)
    generalize xs[k] = x at hxk hOK
    simp only [Zg,hxk,method_specs_simp]
    refine ⟨by omega,by omega,by simp [encEv],?_⟩
    rw [show Zt 9 (encEv x) = encEv x from rfl]
    refine clY.con (c_szEvent x r hr0 hr1 hOK) (by simp only [method_specs_simp,encEv]) ?_
    simp only [method_specs_simp,seval]
    rw [drop_cons hxk,wEs]
    have hn:=wEs_nn (xs.drop (k + 1))
    have hw:=wE_nn x
    refine gB_split (fun h'=>?_) (fun h'=>?_)
    ·simp only [decide_eq_true_eq] at h'
     have h2 : r - wE x < 0:=by unfold sb at h'; split at h' <;> omega
     rw [sb_neg h2 hn]
    ·simp only [decide_eq_false_iff_not,Zb] at h'
     have h2 : 0 ≤ r - wE x:=by unfold sb at h'; split at h' <;> omega
     rw [wrap_id (by omega) (by omega),sb_ge h2]
     refine Again.mk (k + 1,r - wE x) [] ⟨h,h2,by simp only; omega,?_⟩ (Zd h (Ze _)) ?_
     ·exact (sb_sb h2 hn).symm
     ·simp only [method_specs_simp,seval]
   ·simp only [decide_eq_false_iff_not,Zb,Za] at h
    rw [Zm (by omega),wEs,sb_ge (by omega)]
    simp
theorem c_szGraph (g : Gr) (l : Int) (h0 : 0 ≤ l) (h1 : l ≤ 1048576) (hg : GrOK g) : Con P 36 [.agg (encGr g),.int .i64 l] (.int .i64 (sb l (wG g))):=by
 have n1:=wEs_nn g.events
 have n2:=wEs_nn g.parked
 refine Con.of (n:=18) (rs:=[.tmp 4]) (Is.fn Try.func36) rfl (Is.call Try.call36) Try.results36 Try.ntmps36 trivial ?_
 simp only [method_specs_simp,seval]
 simp only [method_specs_simp,seval,encGr]
 refine clY.con (c_szEventS g.events l h0 h1 hg.1) (by simp only [method_specs_simp]) ?_
 simp only [method_specs_simp,seval]
 refine gB_split (fun h=>?_) (fun h=>?_)
 ·simp only [decide_eq_true_eq] at h
  have h2 : l - (g.events.length + wEs g.events) < 0:=by unfold sb at h; split at h <;> omega
  rw [wG,sb_neg h2 (by omega)]
 ·simp only [decide_eq_false_iff_not,Zb] at h
  have h2 : 0 ≤ l - (g.events.length + wEs g.events):=by unfold sb at h; split at h <;> omega
  rw [sb_ge h2]
  refine clY.con (c_szEventS g.parked (l - (g.events.length + wEs g.events)) h2 (by omega) hg.2) (by simp only [method_specs_simp]) ?_
  simp only [method_specs_simp,seval]
  rw [sb_sb h2 (by omega),← wG]
  refine gB_split (fun h=>?_) (fun h=>?_)
  ·simp only [decide_eq_true_eq] at h
   have : sb l (wG g) = -1:=by unfold sb at h ⊢; split at h <;> simp_all
   rw [this]
  ·trivial
theorem c_eqInt64S (xs : List Int) (hx : xs.length < 2 ^ 62) : Con P 32 [.sl 1 (xs.map encI),.sl 1 (xs.map encI)] (.bool true):=by
 have e5 : ∀ a : Int,(a != a) = false:=fun a=>by simp
 refine Con.of (n:=26) (rs:=[.tmp 4]) (Is.fn Try.func32) rfl (Is.call Try.call32) Try.results32 Try.ntmps32 trivial ?_
 simp only [method_specs_simp,seval]
 simp only [method_specs_simp,seval,e5]
 refine SW.while (A:=Nat) (fun k=>⟨pad 26 [.sl 1 (xs.map encI),.sl 1 (xs.map encI),.junk,.junk,.bool false,.int .i64 k],[],[]⟩) (fun k=>xs.length - k) (fun k=>k ≤ xs.length) 0 [] (Zh _) ?_ ?_
 ·simp only [mvcgen_simp,method_specs_simp,seval]
 ·intro k hk
  refine CW.sound ?_
  simp only [method_specs_simp,seval]
  refine gB_split (fun h=>?_) (fun h=>?_)
  ·simp only [decide_eq_true_eq,Za] at h
   obtain ⟨x,hxk⟩ : ∃ x,xs[k]? = some x:=⟨_,Zc h⟩
   simp only [Zg,hxk,encI,method_specs_simp,seval,e5]
   refine ⟨by kernel_rfl,by omega,by omega,by omega,by omega,?_⟩
   rw [wrap_id (by omega) (by omega)]
   refine Again.mk (k + 1) [] h (Zd h (Ze _)) ?_
   simp only [mvcgen_simp,method_specs_simp,seval]
  ·trivial
theorem c_eqEvent (e : Ev) (he : EvOK e) : Con P 46 [.agg (encEv e),.agg (encEv e)] (.bool true):=by
 have e5 : ∀ a : Int,(a != a) = false:=fun a=>by simp
 have e6 : ∀ a : List UInt8,(a == a) = true:=fun a=>by simp
 refine Con.of (n:=51) (rs:=[.tmp 4]) (Is.fn Try.func46) rfl (Is.call Try.call46) Try.results46 Try.ntmps46 trivial ?_
 simp only [method_specs_simp,seval]
 simp only [method_specs_simp,seval,encEv,e5,e6]
 refine clY.con (c_eqInt64S e.prev (by have:=he.2; omega)) (by simp only [method_specs_simp]) ?_
 simp only [method_specs_simp,seval,e5]
theorem c_eqEventS (xs : List Ev) (hx : EvsOK xs) : Con P 116 [.sl 9 (xs.map encEv),.sl 9 (xs.map encEv)] (.bool true):=by
 have e5 : ∀ a : Int,(a != a) = false:=fun a=>by simp
 have hx1:=hx.1
 refine Con.of (n:=27) (rs:=[.tmp 4]) (Is.fn Try.func116) rfl (Is.call Try.call116) Try.results116 Try.ntmps116 trivial ?_
 simp only [method_specs_simp,seval]
 simp only [method_specs_simp,seval,e5]
 refine SW.while (A:=Nat) (fun k=>⟨pad 27 [.sl 9 (xs.map encEv),.sl 9 (xs.map encEv),.junk,.junk,.bool false,.int .i64 k],[],[]⟩) (fun k=>xs.length - k) (fun k=>k ≤ xs.length) 0 [] (Zh _) ?_ ?_
 ·simp only [mvcgen_simp,method_specs_simp,seval]
 ·intro k hk
  refine CW.sound ?_
  simp only [method_specs_simp,seval]
  refine gB_split (fun h=>?_) (fun h=>?_)
  ·simp only [decide_eq_true_eq,Za] at h
   have hxk : xs[k]? = some xs[k]:=Zc h
   have hOK:=hx.2 _ (Zn h)
   generalize xs[k] = x at hxk hOK
   simp only [Zg,hxk,method_specs_simp,seval]
   refine ⟨by kernel_rfl,by omega,by omega,by simp [encEv],by omega,by omega,by simp [encEv],?_⟩
   rw [show Zt 9 (encEv x) = encEv x from rfl]
   refine clY.con (c_eqEvent x hOK) (by simp only [method_specs_simp,encEv]) ?_
   simp only [method_specs_simp,seval]
   rw [wrap_id (by omega) (by omega)]
   refine Again.mk (k + 1) [] h (Zd h (Ze _)) ?_
   simp only [mvcgen_simp,method_specs_simp,seval]
  ·trivial
theorem c_eqGraph (g : Gr) (hg : GrOK g) : Con P 40 [.agg (encGr g),.agg (encGr g)] (.bool true):=by
 have e5 : ∀ a : Int,(a != a) = false:=fun a=>by simp
 refine Con.of (n:=22) (rs:=[.tmp 4]) (Is.fn Try.func40) rfl (Is.call Try.call40) Try.results40 Try.ntmps40 trivial ?_
 simp only [method_specs_simp,seval]
 simp only [method_specs_simp,seval,encGr,e5]
 refine clY.con (c_eqEventS g.events hg.1) (by simp only [method_specs_simp]) ?_
 simp only [method_specs_simp,seval]
 refine clY.con (c_eqEventS g.parked hg.2) (by simp only [method_specs_simp]) ?_
 simp only [method_specs_simp,seval]
theorem n_toInt64S (xs : List Int) (hx : xs.length < 2 ^ 44) : NCon P 29 [.sl 1 (xs.map encI)] (.ar 0 0 xs.length) [.arr true 1 (xs.map encI)]:=by
 refine LCon.new (LCon.of (n:=22) (rs:=[.tmp 2]) (Is.fn Try.func29) rfl (Is.call Try.call29) Try.results29 Try.ntmps29 ?_) (pure1 (pure_ints _ _))
 simp only [method_specs_simp,seval]
 refine ⟨by omega,by omega,by omega,?_⟩
 refine SW.while (A:=Nat × List Int) (fun a=>⟨pad 22 [.sl 1 (xs.map encI),.junk,.nil,.ar 0 0 xs.length,.int .i64 a.1],[.arr true 1 (a.2.map encI)],[]⟩) (fun a=>xs.length - a.1)
   (fun a=>a.1 ≤ xs.length ∧ a.2.length = xs.length ∧ a.2.take a.1 = xs.take a.1) (0,Zj xs.length 0) [0] ⟨Zh _,by simp,by simp⟩ ?_ ?_
 ·have e : Zj xs.length [V.int IntKind.i64 0] = (Zj xs.length (0 : Int)).map encI:=by simp [encI]
  rw [e]
  simp only [mvcgen_simp,method_specs_simp,seval]
 ·rintro ⟨k,ys⟩ ⟨hk,hy,hr⟩
  simp only at hk hy hr
  refine CW.sound ?_
  simp only [method_specs_simp,seval]
  refine gB_split (fun h=>?_) (fun h=>?_)
  ·simp only [decide_eq_true_eq,Za] at h
   obtain ⟨x,hxk⟩ : ∃ x,xs[k]? = some x:=⟨_,Zc h⟩
   obtain ⟨y,hyk⟩ : ∃ y,ys[k]? = some y:=⟨_,Zc (by omega)⟩
   have eg : (ys.map encI).getD k [] = encI y:=by rw [Zp,map_getE _ hyk]; rfl
   simp only [Zg,hxk,encI,method_specs_simp,seval]
   refine ⟨by omega,by omega,by omega,by omega,by omega,?_⟩
   rw [wrap_id (by omega) (by omega)]
   have e : (ys.map encI).set k (V.int IntKind.i64 x :: ZY 1 ((ys.map encI).getD k [])) = (ys.set k x).map encI:=by rw [eg,Yi]; rfl
   refine Again.mk (k + 1,ys.set k x) [0] ⟨h,by simpa using hy,take_set_get hxk hr (by omega)⟩ (Zd h (Ze _)) ?_
   simp only [mvcgen_simp,method_specs_simp,seval,e]
  ·simp only [decide_eq_false_iff_not,Zb,Za] at h
   have hi : k = xs.length:=by omega
   subst hi
   have e : ys = xs:=by rw [← ZD (Zl xs.length),← hr,ZD (by omega)]
   subst e
   refine LResY.mk [0] ?_
   simp only [mvcgen_simp,method_specs_simp,seval]
theorem c_toInt64S (xs : List Int) (hx : xs.length < 2 ^ 44) : Con P 29 [.sl 1 (xs.map encI)] (.sl 1 (xs.map encI)):=by
 have h:=(n_toInt64S (P:=P) xs hx).con (by simp only [method_specs_simp])
 have e : convR [Ob.arr true 1 (xs.map encI)] (.ar 0 0 xs.length) = .sl 1 (xs.map encI):=by simp only [method_specs_simp,take_all3]
 rwa [e] at h
theorem c_toEvent (e : Ev) (he : EvOK e) : Con P 43 [.agg (encEv e)] (.agg (encEv e)):=by
 refine Con.of (n:=33) (rs:=[.cell 2 79]) (Is.fn Try.func43) rfl (Is.call Try.call43) Try.results43 Try.ntmps43 (encEv_ref1 _ e) ?_
 simp only [method_specs_simp,seval]
 simp only [method_specs_simp,seval,encEv]
 refine clY.con (c_toInt64S e.prev he.2) (by simp only [method_specs_simp]) ?_
 simp only [method_specs_simp,seval]
 rfl
def rowZ {α : Type} (f : α → List V) (z : List V) (xs : List α) (k : Nat) : List (List V):=(xs.take k).map f ++ Zj (xs.length - k) z
theorem rowZ_length {α : Type} {f : α → List V} {z : List V} {xs : List α} {k : Nat} (hk : k ≤ xs.length) : (rowZ f z xs k).length = xs.length:=by
 simp [rowZ,Yw hk]; omega
theorem rowZ_zero {α : Type} (f : α → List V) (z : List V) (xs : List α) : rowZ f z xs 0 = Zj xs.length z:=by simp [rowZ]
theorem rowZ_all {α : Type} (f : α → List V) (z : List V) (xs : List α) : rowZ f z xs xs.length = xs.map f:=by simp [rowZ]
theorem rowZ_set {α : Type} {f : α → List V} {z : List V} {xs : List α} {k : Nat} {x : α} (hx : xs[k]? = some x) : (rowZ f z xs k).set k (f x) = rowZ f z xs (k + 1):=by
 have hk:=(Zy.1 hx).1
 unfold rowZ
 rw [Yx _ _ (by simp; omega),show xs.length - k = (xs.length - (k + 1)) + 1 by omega,Yj]
 have e : k - ((xs.take k).map f).length = 0:=by simp; omega
 rw [e,Yt,ZZ,hx]
 simp
theorem rowZ_get {α : Type} {f : α → List V} {z : List V} {xs : List α} {k : Nat} (hk : k < xs.length) : (rowZ f z xs k).getD k [] = z:=by
 unfold rowZ
 rw [Zp,ZA (by simp; omega)]
 have e : k - ((xs.take k).map f).length = 0:=by simp; omega
 rw [e,show xs.length - k = (xs.length - (k + 1)) + 1 by omega,Yj]
 rfl
theorem rowZ_refs {α : Type} {ok : Nat → Prop} {f : α → List V} {z : List V} (hf : ∀ x,Refs ok (f x)) (hz : Refs ok z) (xs : List α) (k : Nat) : Refss ok (rowZ f z xs k):=Refss.of fun x hx=>by
 rcases ZS.1 hx with hx | hx
 ·obtain ⟨a,_,rfl⟩:=ZR.1 hx; exact hf a
 ·rw [Yu hx]; exact hz
theorem rowZ_rens {α : Type} {ρ : Nat → Nat} {f : α → List V} {z : List V} (hf : ∀ x,Refs (fun _=>False) (f x)) (hz : Refs (fun _=>False) z) (xs : List α) (k : Nat) : renss ρ (rowZ f z xs k) = rowZ f z xs k:=renss_pure _ (rowZ_refs hf hz xs k)
def zEv : List V:=[.int .i64 0,.int .i64 0,.int .i64 0,.int .i64 0,.int .i64 0,.int .i64 0,.str ByteArray.empty,.nil,.int .i64 0]
@[method_specs_simp] theorem rowE_refs (ok : Nat → Prop) (xs : List Ev) (k : Nat) : Refss ok (rowZ encEv zEv xs k) = True:=eq_true (rowZ_refs (fun x=>encEv_ref1 ok x) (by simp [zEv,Refs,Ref]) xs k)
@[method_specs_simp] theorem rowE_rens (ρ : Nat → Nat) (xs : List Ev) (k : Nat) : renss ρ (rowZ encEv zEv xs k) = rowZ encEv zEv xs k:=rowZ_rens (fun x=>encEv_ref1 _ x) (by simp [zEv,Refs,Ref]) xs k
theorem c_toEventS (xs : List Ev) (hx : EvsOK xs) : Con P 113 [.sl 9 (xs.map encEv)] (.sl 9 (xs.map encEv)):=by
 have hx1:=hx.1
 refine Con.of (n:=23) (rs:=[.tmp 2]) (Is.fn Try.func113) rfl (Is.call Try.call113) Try.results113 Try.ntmps113 (by simp only [method_specs_simp]) ?_
 simp only [method_specs_simp,seval]
 refine ⟨by omega,by omega,by omega,?_⟩
 refine SW.while (A:=Nat) (fun k=>⟨pad 23 [.sl 9 (xs.map encEv),.junk,.nil,.ar 0 0 xs.length,.int .i64 k],[.arr true 9 (rowZ encEv zEv xs k)],[]⟩) (fun k=>xs.length - k) (fun k=>k ≤ xs.length) 0 [0] (Zh _) ?_ ?_
 ·have ez : Zj xs.length [V.int .i64 0,.int .i64 0,.int .i64 0,.int .i64 0,.int .i64 0,.int .i64 0,.str ByteArray.empty,.nil,.int .i64 0] = rowZ encEv zEv xs 0:=(rowZ_zero _ _ _).symm
  rw [ez]
  simp only [mvcgen_simp,method_specs_simp,seval]
 ·intro k hk
  refine CW.sound ?_
  simp only [method_specs_simp,seval]
  refine gB_split (fun h=>?_) (fun h=>?_)
  ·simp only [decide_eq_true_eq,Za] at h
   have hxk : xs[k]? = some xs[k]:=Zc h
   have hOK:=hx.2 _ (Zn h)
   generalize xs[k] = x at hxk hOK
   simp only [Zg,hxk,method_specs_simp,seval]
   refine ⟨by omega,by omega,by simp [encEv],?_⟩
   rw [show Zt 9 (encEv x) = encEv x from rfl]
   refine clY.con (c_toEvent x hOK) (by simp only [method_specs_simp,encEv]) ?_
   simp only [method_specs_simp,seval]
   rw [rowZ_get h]
   refine ⟨by omega,by omega,by rw [rowZ_length hk]; exact h,by simp [encEv,oneV],rfl,by simp [encEv],?_⟩
   rw [wrap_id (by omega) (by omega),show encEv x ++ ZY (encEv x).length zEv = encEv x from rfl,rowZ_set hxk]
   refine Again.mk (k + 1) [0] h (Zd h (Ze _)) ?_
   simp only [mvcgen_simp,method_specs_simp,seval]
  ·simp only [decide_eq_false_iff_not,Zb,Za] at h
   have hi : k = xs.length:=by omega
   subst hi
   rw [rowZ_all]
   simp only [method_specs_simp,seval]
theorem c_toGraph (g : Gr) (hg : GrOK g) : Con P 38 [.agg (encGr g)] (.agg (encGr g)):=by
 refine Con.of (n:=16) (rs:=[.cell 2 69]) (Is.fn Try.func38) rfl (Is.call Try.call38) Try.results38 Try.ntmps38 (encGr_ref1 _ g) ?_
 simp only [method_specs_simp,seval]
 simp only [method_specs_simp,seval,encGr]
 refine clY.con (c_toEventS g.events hg.1) (by simp only [method_specs_simp]) ?_
 simp only [method_specs_simp,seval]
 refine clY.con (c_toEventS g.parked hg.2) (by simp only [method_specs_simp]) ?_
 simp only [method_specs_simp,seval]
 rfl
end
def pv {α : Type} (xs : List α) : Nat → Option α
 | 0=>none
 | k + 1=>xs[k]?
section
variable {P : Program} [Is P]
theorem c_l02Is (n a b : Int) : Con P 82 [.int .i64 n,.int .i64 a,.int .i64 b] (.bool (Gm.isB n a b)):=c75 n a b
theorem c_l02Time (n : Int) : Con P 87 [.int .i64 n] (.bool (Gm.isB n 0 1000000)):=c74 n
theorem c_l02User (n : Int) : Con P 78 [.int .i64 n] (.bool (Gm.isB n 1 6)):=c76 n
theorem c_in (n a b : Int) : Con P 80 [.int .i64 n,.int .i64 a,.int .i64 b] (.bool (Gm.isB n a b)):=c78 n a b
theorem c_isUser (n : Int) : Con P 76 [.int .i64 n] (.bool (Gm.isB n 1 6)):=c79 n
theorem c_isTime (n : Int) : Con P 86 [.int .i64 n] (.bool (Gm.isB n 0 1000000)):=c80 n
theorem c_isRoom (n : Int) : Con P 160 [.int .i64 n] (.bool (Gm.isB n 1 3)):=by
 refine Con.of (n:=5) (rs:=[.tmp 2]) (Is.fn Try.func160) rfl (Is.call Try.call160) Try.results160 Try.ntmps160 trivial ?_
 simp only [method_specs_simp,seval]
 refine clY.con (c_in n 1 3) (by simp only [method_specs_simp]) ?_
 simp only [method_specs_simp,seval]
theorem c_isId (n : Int) : Con P 205 [.int .i64 n] (.bool (Gm.isB n 1 1000000)):=by
 refine Con.of (n:=5) (rs:=[.tmp 2]) (Is.fn Try.func205) rfl (Is.call Try.call205) Try.results205 Try.ntmps205 trivial ?_
 simp only [method_specs_simp,seval]
 refine clY.con (c_in n 1 1000000) (by simp only [method_specs_simp]) ?_
 simp only [method_specs_simp,seval]
theorem c_l02Id (n : Int) : Con P 174 [.int .i64 n] (.bool (Gm.isB n 1 1000000)):=by
 refine Con.of (n:=5) (rs:=[.tmp 2]) (Is.fn Try.func174) rfl (Is.call Try.call174) Try.results174 Try.ntmps174 trivial ?_
 simp only [method_specs_simp,seval]
 refine clY.con (c_l02Is n 1 1000000) (by simp only [method_specs_simp]) ?_
 simp only [method_specs_simp,seval]
theorem c_incr (xs : List Int) (lo hi : Int) (hx : xs.length < 2 ^ 62) : Con P 206 [.sl 1 (xs.map encI),.int .i64 lo,.int .i64 hi] (.bool (Gm.incr lo hi none xs)):=by
 refine Con.of (n:=35) (rs:=[.tmp 6]) (Is.fn Try.func206) rfl (Is.call Try.call206) Try.results206 Try.ntmps206 trivial ?_
 simp only [method_specs_simp,seval]
 refine SW.while (A:=Nat) (fun k=>⟨pad 35 [.sl 1 (xs.map encI),.int .i64 lo,.int .i64 hi,.junk,.junk,.junk,.bool false,.junk,.junk,.sl 1 (xs.map encI),.int .i64 xs.length,.int .i64 k],[],[]⟩) (fun k=>xs.length - k)
  (fun k=>k ≤ xs.length ∧ Gm.incr lo hi none xs = Gm.incr lo hi (pv xs k) (xs.drop k)) 0 [] ⟨Zh _,rfl⟩ ?_ ?_
 ·simp only [mvcgen_simp,method_specs_simp,seval]
 ·rintro k ⟨hk,hr⟩
  rw [hr]
  refine CW.sound ?_
  simp only [method_specs_simp,seval]
  refine gB_split (fun h=>?_) (fun h=>?_)
  ·simp only [decide_eq_true_eq,Za] at h
   obtain ⟨x,hxk⟩ : ∃ x,xs[k]? = some x:=⟨_,Zc h⟩
   rw [drop_cons hxk,Gm.incr] at hr ⊢
   simp only [Zg,hxk,encI,method_specs_simp,seval]
   refine ⟨by omega,by omega,?_⟩
   refine clY.con (c_in x lo hi) (by simp only [method_specs_simp]) ?_
   simp only [method_specs_simp,seval]
   refine gB_split (fun h1=>?_) (fun h1=>?_)
   ·simp at h1
    refine gB_split (fun h2=>?_) (fun h2=>?_)
    ·simp at h2
     obtain ⟨j,rfl⟩ : ∃ j,k = j + 1:=⟨k - 1,by omega⟩
     obtain ⟨y,hyk⟩ : ∃ y,xs[j]? = some y:=⟨_,Zc (by omega)⟩
     have e4 : IntKind.i64.wrap (((j + 1 : Nat) : Int) - 1) = (j : Int):=by rw [wrap_id (by omega) (by omega)]; omega
     rw [e4]
     simp only [Zg,hyk,encI,method_specs_simp,seval]
     refine ⟨by omega,by omega,?_⟩
     have ep : pv xs (j + 1) = some y:=hyk
     refine gB_split (fun h3=>?_) (fun h3=>?_)
     ·simp at h3
      simp [ep,Gm.notLess,h3]
     ·simp at h3
      have hn : ¬ y ≥ x:=by omega
      rw [wrap_id (by omega) (by omega)]
      refine Again.mk (j + 1 + 1) [] ⟨h,?_⟩ (Zd h (Ze _)) ?_
      ·have e7 : pv xs (j + 1 + 1) = some x:=hxk
       rw [ep,e7]
       simp [Gm.notLess,h1,h3]
      ·simp only [mvcgen_simp,method_specs_simp,seval]
    ·simp at h2
     have hk0 : k = 0:=by omega
     subst hk0
     rw [wrap_id (by omega) (by omega)]
     refine Again.mk 1 [] ⟨h,?_⟩ (Zd h (Ze _)) ?_
     ·simp [Gm.notLess,h1,pv,hxk]
     ·simp only [mvcgen_simp,method_specs_simp,seval]
   ·simp at h1
    simp [h1]
  ·simp only [decide_eq_false_iff_not,Zb,Za] at h
   rw [Zm (by omega),Gm.incr]
def idxI (xs : List Int) (v : Int) : Int:=if xs.contains v then ((xs.findIdx (· == v) : Nat) : Int) else -1
theorem c_indexI (xs : List Int) (v : Int) (hx : xs.length < 2 ^ 62) : Con P 149 [.sl 1 (xs.map encI),.int .i64 v] (.int .i64 (idxI xs v)):=by
 refine Con.of (n:=19) (rs:=[.tmp 4]) (Is.fn Try.func149) rfl (Is.call Try.call149) Try.results149 Try.ntmps149 trivial ?_
 simp only [method_specs_simp,seval]
 refine SW.while (A:=Nat) (fun k=>⟨pad 19 [.sl 1 (xs.map encI),.int .i64 v,.junk,.junk,.int .i64 0,.junk,.sl 1 (xs.map encI),.int .i64 xs.length,.int .i64 k],[],[]⟩) (fun k=>xs.length - k)
  (fun k=>k ≤ xs.length ∧ idxI xs v = if (xs.drop k).contains v then (k : Int) + (((xs.drop k).findIdx (· == v) : Nat) : Int) else -1) 0 [] ⟨Zh _,by simp [idxI]⟩ ?_ ?_
 ·simp only [mvcgen_simp,method_specs_simp,seval]
 ·rintro k ⟨hk,hr⟩
  rw [hr]
  refine CW.sound ?_
  simp only [method_specs_simp,seval]
  refine gB_split (fun h=>?_) (fun h=>?_)
  ·simp only [decide_eq_true_eq,Za] at h
   obtain ⟨x,hxk⟩ : ∃ x,xs[k]? = some x:=⟨_,Zc h⟩
   rw [drop_cons hxk]
   simp only [Zg,hxk,encI,method_specs_simp,seval]
   refine ⟨by omega,by omega,?_⟩
   refine gB_split (fun h1=>?_) (fun h1=>?_)
   ·simp at h1
    subst h1
    simp [ZQ]
   ·simp at h1
    rw [wrap_id (by omega) (by omega)]
    refine Again.mk (k + 1) [] ⟨h,?_⟩ (Zd h (Ze _)) ?_
    ·have h2 : (x == v) = false:=beq_eq_false_iff_ne.2 (fun q=>h1 q.symm)
     have h3 : (v == x) = false:=beq_eq_false_iff_ne.2 h1
     simp only [YI,h3,Bool.false_or,ZQ,h2]
     split
     ·simp; omega
     ·rfl
    ·simp only [mvcgen_simp,method_specs_simp,seval]
  ·simp only [decide_eq_false_iff_not,Zb,Za] at h
   rw [Zm (by omega)]
   simp
theorem c_containsI (xs : List Int) (v : Int) (hx : xs.length < 2 ^ 62) : Con P 97 [.sl 1 (xs.map encI),.int .i64 v] (.bool (xs.contains v)):=by
 refine Con.of (n:=9) (rs:=[.tmp 4]) (Is.fn Try.func97) rfl (Is.call Try.call97) Try.results97 Try.ntmps97 trivial ?_
 simp only [method_specs_simp,seval]
 refine clY.con (c_indexI xs v hx) (by simp only [method_specs_simp]) ?_
 simp only [method_specs_simp,seval]
 unfold idxI
 cases xs.contains v with
 | true=>simp
 | false=>simp
theorem c_l02Prev (xs : List Int) (id : Int) (hx : xs.length < 2 ^ 62) : Con P 175 [.sl 1 (xs.map encI),.int .i64 id] (.bool (Gm.prevR xs id)):=by
 refine Con.of (n:=45) (rs:=[.tmp 4]) (Is.fn Try.func175) rfl (Is.call Try.call175) Try.results175 Try.ntmps175 trivial ?_
 simp only [method_specs_simp,seval]
 refine gB_split (fun h=>?_) (fun h=>?_)
 ·simp at h
  have : ¬ ((xs.length : Int) ≤ 4):=by omega
  simp [Gm.prevR,this]
 ·simp at h
  have : ((xs.length : Int) ≤ 4):=by omega
  simp only [Gm.prevR,this,decide_true,Zk]
  refine SW.while (A:=Nat) (fun k=>⟨pad 45 [.sl 1 (xs.map encI),.int .i64 id,.junk,.junk,.bool false,.int .i64 k],[],[]⟩) (fun k=>xs.length - k)
   (fun k=>k ≤ xs.length ∧ Gm.incrN id none xs = Gm.incrN id (pv xs k) (xs.drop k)) 0 [] ⟨Zh _,rfl⟩ ?_ ?_
  ·simp only [mvcgen_simp,method_specs_simp,seval]
  ·rintro k ⟨hk,hr⟩
   rw [hr]
   refine CW.sound ?_
   simp only [method_specs_simp,seval]
   refine gB_split (fun h=>?_) (fun h=>?_)
   ·simp only [decide_eq_true_eq,Za] at h
    obtain ⟨x,hxk⟩ : ∃ x,xs[k]? = some x:=⟨_,Zc h⟩
    rw [drop_cons hxk,Gm.incrN]
    simp only [Zg,hxk,encI,method_specs_simp,seval]
    refine ⟨by kernel_rfl,by omega,by omega,?_⟩
    refine clY.con (c_l02Id x) (by simp only [method_specs_simp]) ?_
    simp only [method_specs_simp,seval]
    refine gB_split (fun h1=>?_) (fun h1=>?_)
    ·simp at h1
     have e1 : (x == id) = true ∨ (x == id) = false:=by cases (x == id) <;> simp
     refine ⟨by omega,by omega,?_⟩
     simp only [hxk,ZO,encI,method_specs_simp,seval]
     rcases e1 with e1 | e1
     ·simp only [e1,method_specs_simp,seval]
      simp [h1]
     ·simp only [e1,method_specs_simp,seval]
      refine gB_split (fun h2=>?_) (fun h2=>?_)
      ·simp at h2
       obtain ⟨j,rfl⟩ : ∃ j,k = j + 1:=⟨k - 1,by omega⟩
       obtain ⟨y,hyk⟩ : ∃ y,xs[j]? = some y:=⟨_,Zc (by omega)⟩
       have e4 : IntKind.i64.wrap (((j + 1 : Nat) : Int) - 1) = (j : Int):=by rw [wrap_id (by omega) (by omega)]; omega
       have ep : pv xs (j + 1) = some y:=hyk
       rw [e4]
       refine ⟨by omega,by omega,?_⟩
       simp only [hyk,hxk,ZO,encI,method_specs_simp,seval]
       refine ⟨by omega,by omega,?_⟩
       have e8 : ((j : Int) + 1).toNat = j + 1:=by omega
       simp only [e8,hxk,ZO,encI,method_specs_simp,seval]
       rw [ep]
       refine gB_split (fun h3=>?_) (fun h3=>?_)
       ·simp at h3
        simp [Gm.notLess,h3]
       ·simp at h3
        rw [wrap_id (by omega) (by omega)]
        refine Again.mk (j + 1 + 1) [] ⟨h,?_⟩ (Zd h (Ze _)) ?_
        ·have e7 : pv xs (j + 1 + 1) = some x:=hxk
         have e9 : decide (y ≥ x) = false:=by simp; exact h3
         rw [e7]
         simp only [Gm.notLess,h1,e9,e1,Zk,Yy]
        ·simp only [mvcgen_simp,method_specs_simp,seval]
      ·simp at h2
       have hk0 : k = 0:=by omega
       subst hk0
       rw [wrap_id (by omega) (by omega)]
       refine Again.mk 1 [] ⟨h,?_⟩ (Zd h (Ze _)) ?_
       ·have e7 : pv xs 1 = some x:=hxk
        rw [e7]
        simp [Gm.notLess,h1,pv]
       ·simp only [mvcgen_simp,method_specs_simp,seval]
    ·simp at h1
     simp [h1]
   ·simp only [decide_eq_false_iff_not,Zb,Za] at h
    rw [Zm (by omega),Gm.incrN]
theorem str_empty (s : ByteArray) : (s.toList == ByteArray.empty.toList) = ((s.size : Int) == 0):=by
 rw [ByteArray.toList_eq,ByteArray.toList_eq,ZM]
 simp only [beq_iff_eq]
 constructor
 ·intro h
  have:=congrArg List.length h
  rw [YP] at this
  exact congrArg Int.ofNat this
 ·intro h
  have : s.data.toList.length = 0:=by
   rw [YP]
   exact Int.ofNat.inj h
  rw [Yz this]
  rfl
theorem c_fieldsRight (e : Ev) (he : EvOK e) : Con P 207 [.agg (encEv e)] (.bool (Gm.bodyR e)):=by
 refine Con.of (n:=114) (rs:=[.tmp 2]) (Is.fn Try.func207) rfl (Is.call Try.call207) Try.results207 Try.ntmps207 trivial ?_
 simp only [method_specs_simp,seval]
 simp only [method_specs_simp,seval,encEv]
 refine ⟨by kernel_rfl,?_⟩
 refine gB_split (fun h=>?_) (fun h=>?_)
 ·simp only [beq_iff_eq] at h
  cases h1 : e.key == 0 <;> cases h2 : e.n == 0 <;> simp only [h1,h2,method_specs_simp,seval] <;> simp [Gm.bodyR,h,h1,h2]
 ·simp only [Zb,beq_eq_false_iff_ne,ne_eq] at h
  have n1 : ¬ e.kind = 1:=h
  clear h
  refine gB_split (fun h=>?_) (fun h=>?_)
  ·simp only [beq_iff_eq] at h
   refine clY.con (c_isUser e.key) (by simp only [method_specs_simp]) ?_
   simp only [method_specs_simp,seval]
   cases h1 : Gm.isB e.key 1 6
   ·simp only [method_specs_simp,seval]
    simp [Gm.bodyR,h,h1]
   ·simp only [method_specs_simp,seval]
    refine clY.con (c_in e.n 1 4) (by simp only [method_specs_simp]) ?_
    simp only [method_specs_simp,seval]
    cases h2 : Gm.isB e.n 1 4 <;> simp only [method_specs_simp,seval] <;> simp [Gm.bodyR,h,h1,h2]
  ·simp only [Zb,beq_eq_false_iff_ne,ne_eq] at h
   have n2 : ¬ e.kind = 2:=h
   clear h
   refine gB_split (fun h=>?_) (fun h=>?_)
   ·simp only [beq_iff_eq] at h
    refine clY.con (c_isUser e.key) (by simp only [method_specs_simp]) ?_
    simp only [method_specs_simp,seval]
    cases h1 : Gm.isB e.key 1 6
    ·simp only [method_specs_simp,seval]
     simp [Gm.bodyR,h,h1]
    ·simp only [method_specs_simp,seval]
     refine clY.con (c_in e.n 0 100) (by simp only [method_specs_simp]) ?_
     simp only [method_specs_simp,seval]
     cases h2 : Gm.isB e.n 0 100 <;> simp only [method_specs_simp,seval] <;> simp [Gm.bodyR,h,h1,h2]
   ·simp only [Zb,beq_eq_false_iff_ne,ne_eq] at h
    have n3 : ¬ e.kind = 3:=h
    clear h
    refine gB_split (fun h=>?_) (fun h=>?_)
    ·simp only [beq_iff_eq] at h
     cases h1 : e.key == 0 <;> cases h2 : e.n == 0 <;> simp only [h1,h2,method_specs_simp,seval] <;> simp [Gm.bodyR,h,h1,h2]
    ·simp only [Zb,beq_eq_false_iff_ne,ne_eq] at h
     have n4 : ¬ e.kind = 4:=h
     clear h
     refine gB_split (fun h=>?_) (fun h=>?_)
     ·simp only [beq_iff_eq] at h
      cases h1 : e.key == 0
      ·simp only [h1,method_specs_simp,seval]
       simp [Gm.bodyR,h,h1]
      ·simp only [h1,method_specs_simp,seval]
       refine clY.con (c_in e.n 1 2) (by simp only [method_specs_simp]) ?_
       simp only [method_specs_simp,seval]
       cases h2 : Gm.isB e.n 1 2 <;> simp only [method_specs_simp,seval] <;> simp [Gm.bodyR,h,h1,h2]
     ·simp only [Zb,beq_eq_false_iff_ne,ne_eq] at h
      have n5 : ¬ e.kind = 5:=h
      clear h
      refine gB_split (fun h=>?_) (fun h=>?_)
      ·simp only [beq_iff_eq] at h
       cases h1 : e.key == 0
       ·simp only [h1,method_specs_simp,seval]
        simp [Gm.bodyR,h,h1]
       ·simp only [h1,method_specs_simp,seval]
        refine clY.con (c_in e.n 1 3) (by simp only [method_specs_simp]) ?_
        simp only [method_specs_simp,seval]
        cases h2 : Gm.isB e.n 1 3 <;> simp only [method_specs_simp,seval] <;> simp [Gm.bodyR,h,h1,h2]
      ·simp only [Zb,beq_eq_false_iff_ne,ne_eq] at h
       have n6 : ¬ e.kind = 6:=h
       clear h
       refine gB_split (fun h=>?_) (fun h=>?_)
       ·simp only [beq_iff_eq] at h
        cases h1 : e.key == 0
        ·simp only [h1,method_specs_simp,seval]
         simp [Gm.bodyR,h,h1]
        ·cases h2 : e.n == 0
         ·simp only [h1,h2,method_specs_simp,seval]
          simp [Gm.bodyR,h,h1,h2]
         ·simp only [h1,h2,method_specs_simp,seval]
          refine clY.con (c_in e.text.size 1 30) (by simp only [method_specs_simp]) ?_
          simp only [method_specs_simp,seval]
          simp [Gm.bodyR,h,h1,h2]
       ·simp only [Zb,beq_eq_false_iff_ne,ne_eq] at h
        have n7 : ¬ e.kind = 7:=h
        clear h
        cases h8 : e.kind == 8
        ·simp only [h8,method_specs_simp,seval]
         simp [Gm.bodyR,h8,n1,n2,n3,n4,n5,n6,n7]
        ·simp only [h8,method_specs_simp,seval]
         refine clY.con (c_isId e.key) (by simp only [method_specs_simp]) ?_
         simp only [method_specs_simp,seval]
         cases h1 : Gm.isB e.key 1 1000000 <;> cases h2 : e.n == 0 <;> simp only [h2,method_specs_simp,seval] <;> simp [Gm.bodyR,h8,h1,h2,n1,n2,n3,n4,n5,n6,n7]
theorem c_l02Body (e : Ev) (he : EvOK e) : Con P 176 [.agg (encEv e)] (.bool (Gm.bodyR e)):=by
 have ht : (e.text.toList == ({ data:=#[] } : ByteArray).toList) = ((e.text.size : Int) == 0):=str_empty e.text
 refine Con.of (n:=115) (rs:=[.tmp 2]) (Is.fn Try.func176) rfl (Is.call Try.call176) Try.results176 Try.ntmps176 trivial ?_
 simp only [method_specs_simp,seval]
 simp only [encEv,ht,method_specs_simp,seval]
 refine ⟨by kernel_rfl,?_⟩
 refine gB_split (fun h=>?_) (fun h=>?_)
 ·simp only [beq_iff_eq] at h
  cases h1 : e.key == 0 <;> cases h2 : e.n == 0 <;> simp only [h1,h2,method_specs_simp,seval] <;> simp [Gm.bodyR,h,h1,h2]
 ·simp only [Zb,beq_eq_false_iff_ne,ne_eq] at h
  have n1 : ¬ e.kind = 1:=h
  clear h
  refine gB_split (fun h=>?_) (fun h=>?_)
  ·simp only [beq_iff_eq] at h
   refine clY.con (c_l02User e.key) (by simp only [method_specs_simp]) ?_
   simp only [method_specs_simp,seval]
   cases h1 : Gm.isB e.key 1 6
   ·simp only [method_specs_simp,seval]
    simp [Gm.bodyR,h,h1]
   ·simp only [method_specs_simp,seval]
    refine clY.con (c_l02Is e.n 1 4) (by simp only [method_specs_simp]) ?_
    simp only [method_specs_simp,seval]
    cases h2 : Gm.isB e.n 1 4 <;> simp only [method_specs_simp,seval] <;> simp [Gm.bodyR,h,h1,h2]
  ·simp only [Zb,beq_eq_false_iff_ne,ne_eq] at h
   have n2 : ¬ e.kind = 2:=h
   clear h
   refine gB_split (fun h=>?_) (fun h=>?_)
   ·simp only [beq_iff_eq] at h
    refine clY.con (c_l02User e.key) (by simp only [method_specs_simp]) ?_
    simp only [method_specs_simp,seval]
    cases h1 : Gm.isB e.key 1 6
    ·simp only [method_specs_simp,seval]
     simp [Gm.bodyR,h,h1]
    ·simp only [method_specs_simp,seval]
     refine clY.con (c_l02Is e.n 0 100) (by simp only [method_specs_simp]) ?_
     simp only [method_specs_simp,seval]
     cases h2 : Gm.isB e.n 0 100 <;> simp only [method_specs_simp,seval] <;> simp [Gm.bodyR,h,h1,h2]
   ·simp only [Zb,beq_eq_false_iff_ne,ne_eq] at h
    have n3 : ¬ e.kind = 3:=h
    clear h
    refine gB_split (fun h=>?_) (fun h=>?_)
    ·simp only [beq_iff_eq] at h
     cases h1 : e.key == 0 <;> cases h2 : e.n == 0 <;> simp only [h1,h2,method_specs_simp,seval] <;> simp [Gm.bodyR,h,h1,h2]
    ·simp only [Zb,beq_eq_false_iff_ne,ne_eq] at h
     have n4 : ¬ e.kind = 4:=h
     clear h
     refine gB_split (fun h=>?_) (fun h=>?_)
     ·simp only [beq_iff_eq] at h
      cases h1 : e.key == 0
      ·simp only [h1,method_specs_simp,seval]
       simp [Gm.bodyR,h,h1]
      ·simp only [h1,method_specs_simp,seval]
       refine clY.con (c_l02Is e.n 1 2) (by simp only [method_specs_simp]) ?_
       simp only [method_specs_simp,seval]
       cases h2 : Gm.isB e.n 1 2 <;> simp only [method_specs_simp,seval] <;> simp [Gm.bodyR,h,h1,h2]
     ·simp only [Zb,beq_eq_false_iff_ne,ne_eq] at h
      have n5 : ¬ e.kind = 5:=h
      clear h
      refine gB_split (fun h=>?_) (fun h=>?_)
      ·simp only [beq_iff_eq] at h
       cases h1 : e.key == 0
       ·simp only [h1,method_specs_simp,seval]
        simp [Gm.bodyR,h,h1]
       ·simp only [h1,method_specs_simp,seval]
        refine clY.con (c_l02Is e.n 1 3) (by simp only [method_specs_simp]) ?_
        simp only [method_specs_simp,seval]
        cases h2 : Gm.isB e.n 1 3 <;> simp only [method_specs_simp,seval] <;> simp [Gm.bodyR,h,h1,h2]
      ·simp only [Zb,beq_eq_false_iff_ne,ne_eq] at h
       have n6 : ¬ e.kind = 6:=h
       clear h
       refine gB_split (fun h=>?_) (fun h=>?_)
       ·simp only [beq_iff_eq] at h
        cases h1 : e.key == 0 <;> cases h2 : e.n == 0 <;> cases h3 : decide ((e.text.size : Int) ≥ 1) <;> simp only [h1,h2,h3,method_specs_simp,seval] <;> simp [Gm.bodyR,Gm.isB,h,h1,h2,h3]
       ·simp only [Zb,beq_eq_false_iff_ne,ne_eq] at h
        have n7 : ¬ e.kind = 7:=h
        clear h
        refine gB_split (fun h=>?_) (fun h=>?_)
        ·simp only [beq_iff_eq] at h
         refine clY.con (c_l02Id e.key) (by simp only [method_specs_simp]) ?_
         simp only [method_specs_simp,seval]
         cases h1 : Gm.isB e.key 1 1000000 <;> cases h2 : e.n == 0 <;> simp only [h2,method_specs_simp,seval] <;> simp [Gm.bodyR,h,h1,h2]
        ·simp only [Zb,beq_eq_false_iff_ne,ne_eq] at h
         have n8 : ¬ e.kind = 8:=h
         clear h
         have h8 : (e.kind == 8) = false:=beq_eq_false_iff_ne.2 n8
         simp [Gm.bodyR,h8,n1,n2,n3,n4,n5,n6,n7,n8]
def evR (e : Ev) : Bool:=Gm.isB e.id 1 1000000 && (Gm.isB e.room 1 3 && (Gm.isB e.author 1 6 && (Gm.isB e.time 0 1000000 && (decide ((e.prev.length : Int) ≤ 4) && (Gm.incr 1 1000000 none e.prev && (!e.prev.contains e.id && Gm.bodyR e))))))
theorem evR_right (e : Ev) : (evR e && ((e.kind == 1) == ((e.prev.length : Int) == 0))) = Gm.evRight e:=by
 unfold evR Gm.evRight Gm.prevR
 rw [Gm.incrN_eq]
 cases Gm.isB e.id 1 1000000 <;> cases Gm.isB e.room 1 3 <;> cases Gm.isB e.author 1 6 <;> cases Gm.isB e.time 0 1000000 <;> cases decide ((e.prev.length : Int) ≤ 4) <;> cases Gm.incr 1 1000000 none e.prev <;> cases e.prev.contains e.id <;> cases Gm.bodyR e <;> cases ((e.kind == 1) == ((e.prev.length : Int) == 0)) <;> rfl
theorem c_right (e : Ev) (he : EvOK e) : Con P 179 [.agg (encEv e)] (.bool (evR e)):=by
 have hp : e.prev.length < 2 ^ 62:=by have:=he.2; omega
 refine Con.of (n:=44) (rs:=[.tmp 2]) (Is.fn Try.func179) rfl (Is.call Try.call179) Try.results179 Try.ntmps179 trivial ?_
 simp only [method_specs_simp,seval,encEv]
 refine clY.con (c_isId e.id) (by simp only [method_specs_simp,encEv]) ?_
 simp only [method_specs_simp,seval,encEv]
 cases g1 : Gm.isB e.id 1 1000000
 ·(try simp only [g1,method_specs_simp,seval])
  simp only [evR,g1,Zk,Zs,Zu,Zw]
 ·(try simp only [g1,method_specs_simp,seval])
  refine clY.con (c_isRoom e.room) (by simp only [method_specs_simp,encEv]) ?_
  simp only [method_specs_simp,seval,encEv]
  cases g2 : Gm.isB e.room 1 3
  ·(try simp only [g2,method_specs_simp,seval])
   simp only [evR,g1,g2,Zk,Zs,Zu,Zw]
  ·(try simp only [g2,method_specs_simp,seval])
   refine clY.con (c_isUser e.author) (by simp only [method_specs_simp,encEv]) ?_
   simp only [method_specs_simp,seval,encEv]
   cases g3 : Gm.isB e.author 1 6
   ·(try simp only [g3,method_specs_simp,seval])
    simp only [evR,g1,g2,g3,Zk,Zs,Zu,Zw]
   ·(try simp only [g3,method_specs_simp,seval])
    refine clY.con (c_isTime e.time) (by simp only [method_specs_simp,encEv]) ?_
    simp only [method_specs_simp,seval,encEv]
    cases g4 : Gm.isB e.time 0 1000000
    ·(try simp only [g4,method_specs_simp,seval])
     simp only [evR,g1,g2,g3,g4,Zk,Zs,Zu,Zw]
    ·(try simp only [g4,method_specs_simp,seval])
     cases g5 : decide ((e.prev.length : Int) ≤ 4)
     ·(try simp only [g5,method_specs_simp,seval])
      simp only [evR,g1,g2,g3,g4,g5,Zk,Zs,Zu,Zw]
     ·(try simp only [g5,method_specs_simp,seval])
      refine clY.con (c_incr e.prev 1 1000000 hp) (by simp only [method_specs_simp,encEv]) ?_
      simp only [method_specs_simp,seval,encEv]
      cases g6 : Gm.incr 1 1000000 none e.prev
      ·(try simp only [g6,method_specs_simp,seval])
       simp only [evR,g1,g2,g3,g4,g5,g6,Zk,Zs,Zu,Zw]
      ·(try simp only [g6,method_specs_simp,seval])
       refine clY.con (c_containsI e.prev e.id hp) (by simp only [method_specs_simp,encEv]) ?_
       simp only [method_specs_simp,seval,encEv]
       cases g7 : (!e.prev.contains e.id)
       ·(try simp only [g7,method_specs_simp,seval])
        simp only [evR,g1,g2,g3,g4,g5,g6,g7,Zk,Zs,Zu,Zw]
       ·(try simp only [g7,method_specs_simp,seval])
        refine clY.con (c_fieldsRight e he) (by simp only [method_specs_simp,encEv]) ?_
        simp only [method_specs_simp,seval,encEv]
        cases g8 : Gm.bodyR e <;> (try simp only [g8,method_specs_simp,seval]) <;> simp only [evR,g1,g2,g3,g4,g5,g6,g7,g8,Zk,Zs,Zu,Zw]
theorem c_EventRight (e : Ev) (he : EvOK e) : Con P 121 [.agg (encEv e)] (.bool (Gm.evRight e)):=by
 have hr:=evR_right e
 refine Con.of (n:=15) (rs:=[.tmp 2]) (Is.fn Try.func121) rfl (Is.call Try.call121) Try.results121 Try.ntmps121 trivial ?_
 simp only [method_specs_simp,seval,encEv]
 refine clY.con (c_right e he) (by simp only [method_specs_simp,encEv]) ?_
 simp only [method_specs_simp,seval,encEv]
 rw [← hr]
 cases g1 : evR e <;> simp only [method_specs_simp,seval,Zs,Zk]
theorem c_sEventRight (e : Ev) (he : EvOK e) : Con P 118 [.agg (encEv e)] (.bool (Gm.evRight e)):=by
 have hp : e.prev.length < 2 ^ 62:=by have:=he.2; omega
 refine Con.of (n:=42) (rs:=[.tmp 2]) (Is.fn Try.func118) rfl (Is.call Try.call118) Try.results118 Try.ntmps118 trivial ?_
 simp only [method_specs_simp,seval,encEv]
 refine clY.con (c_l02Id e.id) (by simp only [method_specs_simp,encEv]) ?_
 simp only [method_specs_simp,seval,encEv]
 cases g1 : Gm.isB e.id 1 1000000
 ·(try simp only [g1,method_specs_simp,seval])
  simp only [Gm.evRight,g1,Zk,Zs,Zu,Zw]
 ·(try simp only [g1,method_specs_simp,seval])
  refine clY.con (c_l02Is e.room 1 3) (by simp only [method_specs_simp,encEv]) ?_
  simp only [method_specs_simp,seval,encEv]
  cases g2 : Gm.isB e.room 1 3
  ·(try simp only [g2,method_specs_simp,seval])
   simp only [Gm.evRight,g1,g2,Zk,Zs,Zu,Zw]
  ·(try simp only [g2,method_specs_simp,seval])
   refine clY.con (c_l02User e.author) (by simp only [method_specs_simp,encEv]) ?_
   simp only [method_specs_simp,seval,encEv]
   cases g3 : Gm.isB e.author 1 6
   ·(try simp only [g3,method_specs_simp,seval])
    simp only [Gm.evRight,g1,g2,g3,Zk,Zs,Zu,Zw]
   ·(try simp only [g3,method_specs_simp,seval])
    refine clY.con (c_l02Time e.time) (by simp only [method_specs_simp,encEv]) ?_
    simp only [method_specs_simp,seval,encEv]
    cases g4 : Gm.isB e.time 0 1000000
    ·(try simp only [g4,method_specs_simp,seval])
     simp only [Gm.evRight,g1,g2,g3,g4,Zk,Zs,Zu,Zw]
    ·(try simp only [g4,method_specs_simp,seval])
     refine clY.con (c_l02Prev e.prev e.id hp) (by simp only [method_specs_simp,encEv]) ?_
     simp only [method_specs_simp,seval,encEv]
     cases g5 : Gm.prevR e.prev e.id
     ·(try simp only [g5,method_specs_simp,seval])
      simp only [Gm.evRight,g1,g2,g3,g4,g5,Zk,Zs,Zu,Zw]
     ·(try simp only [g5,method_specs_simp,seval])
      cases g6 : (e.kind == 1) == ((e.prev.length : Int) == 0)
      ·(try simp only [g6,method_specs_simp,seval])
       simp only [Gm.evRight,g1,g2,g3,g4,g5,g6,Zk,Zs,Zu,Zw]
      ·(try simp only [g6,method_specs_simp,seval])
       refine clY.con (c_l02Body e he) (by simp only [method_specs_simp,encEv]) ?_
       simp only [method_specs_simp,seval,encEv]
       cases g7 : Gm.bodyR e <;> (try simp only [g7,method_specs_simp,seval]) <;> simp only [Gm.evRight,g1,g2,g3,g4,g5,g6,g7,Zk,Zs,Zu,Zw]
end
theorem cmpI_lt (a b : Int) : decide (cmpI a b < 0) = decide (a < b):=by
 unfold cmpI
 by_cases h : a < b
 ·simp [h]
 ·by_cases h2 : a > b
  ·simp [h,h2]
  ·simp [h,h2]
theorem cmpI_eq (a b : Int) : (cmpI a b == 0) = (a == b):=by
 unfold cmpI
 by_cases h : a < b
 ·have : a ≠ b:=by omega
  simp [h,this]
 ·by_cases h2 : a > b
  ·have : a ≠ b:=by omega
   simp [h,h2,this]
  ·have : a = b:=by omega
   simp [h,h2,this]
section
variable {P : Program} [Is P]
theorem c_find1 (e : Ev) (id : Int) : Con P 209 [.agg (encEv e),.int .i64 id] (.int .i64 (cmpI e.id id)):=by
 refine Con.of (n:=9) (rs:=[.tmp 4]) (Is.fn Try.func209) rfl (Is.call Try.call209) Try.results209 Try.ntmps209 trivial ?_
 simp only [method_specs_simp,seval,encEv]
 refine clY.con (c172 e.id id) (by simp only [method_specs_simp,encEv]) ?_
 simp only [method_specs_simp,seval,encEv]
theorem c_bs (xs : List Ev) (id : Int) (hx : xs.length * 96 ≤ 2 ^ 47) (hs : Gm.Srt xs) : Con P 208 [.sl 9 (xs.map encEv),.int .i64 id,.fn 209 [] []] (.tup [.int .i64 (Gm.posE xs id),.bool (Gm.hasId xs id)]):=by
 rw [← Gm.bsE hs id,← Gm.isAtE_has hs id,← Gm.bsE hs id]
 refine Con.of (n:=49) (rs:=[.tmp 6,.tmp 7]) (Is.fn Try.func208) rfl (Is.call Try.call208) Try.results208 Try.ntmps208 (by simp only [method_specs_simp]) ?_
 simp only [method_specs_simp,seval]
 refine SW.while (A:=Nat × Nat) (fun a=>⟨pad 49 [.sl 9 (xs.map encEv),.int .i64 id,.fn 209 [] [],.junk,.junk,.junk,.int .i64 0,.bool false,.int .i64 xs.length,.int .i64 a.1,.int .i64 a.2],[],[]⟩)
  (fun a=>a.2 - a.1) (fun a=>a.1 ≤ a.2 ∧ a.2 ≤ xs.length ∧ Gm.bsP (fun e : Ev=>decide (e.id < id)) xs 0 xs.length = Gm.bsP (fun e : Ev=>decide (e.id < id)) xs a.1 a.2) (0,xs.length) [] ⟨Zh _,Zl _,rfl⟩ ?_ ?_
 ·simp only [mvcgen_simp,method_specs_simp,seval]
 ·rintro ⟨i,j⟩ ⟨hij,hj,hr⟩
  simp only at hij hj hr
  rw [hr]
  refine CW.sound ?_
  have e1 : IntKind.i64.wrap ((i : Int) + j) = (i : Int) + j:=wrap_id (by omega) (by omega)
  have e2 : IntKind.u64.wrap ((i : Int) + j) = (i : Int) + j:=by simp [IntKind.wrap,IntKind.bits,IntKind.signed]; omega
  have e3 : ((i : Int) + j).fdiv (2 ^ min 1 IntKind.u64.bits) = (((i + j) / 2 : Nat) : Int):=by
   simp only [IntKind.bits]
   rw [YQ _ (by decide)]
   show ((i : Int) + j) / 2 = _
   omega
  have e4 : IntKind.i64.wrap (((i + j) / 2 : Nat) : Int) = (((i + j) / 2 : Nat) : Int):=wrap_id (by omega) (by omega)
  simp only [method_specs_simp,seval,e1,e2,e3,e4]
  refine gB_split (fun h=>?_) (fun h=>?_)
  ·simp only [decide_eq_true_eq,Za] at h
   have hh : (i + j) / 2 < xs.length:=by omega
   obtain ⟨y,hy⟩ : ∃ y,xs[(i + j) / 2]? = some y:=⟨_,Zc hh⟩
   simp only [method_specs_simp,seval,hy]
   refine ⟨by omega,by omega,by simp [encEv],?_⟩
   rw [show Zt 9 (encEv y) = encEv y from rfl]
   refine clY.con (c_find1 y id) (by simp only [method_specs_simp]) ?_
   simp only [method_specs_simp,seval]
   have e5 : IntKind.i64.wrap ((((i + j) / 2 : Nat) : Int) + 1) = (((i + j) / 2 + 1 : Nat) : Int):=by rw [wrap_id (by omega) (by omega)]; omega
   have hb : Gm.bsP (fun e : Ev=>decide (e.id < id)) xs i j = if decide (y.id < id) then Gm.bsP (fun e : Ev=>decide (e.id < id)) xs ((i + j) / 2 + 1) j else Gm.bsP (fun e : Ev=>decide (e.id < id)) xs i ((i + j) / 2):=by
    rw [Gm.bsP,dif_pos h,hy]
   rw [cmpI_lt]
   refine gB_split (fun h2=>?_) (fun h2=>?_)
   ·rw [if_pos h2] at hb
    rw [e5]
    refine Again.mk ((i + j) / 2 + 1,j) [] ⟨by simp only; omega,hj,hb⟩ (by simp only; omega) ?_
    simp only [mvcgen_simp,method_specs_simp,seval]
   ·rw [if_neg (by simpa using h2)] at hb
    refine Again.mk (i,(i + j) / 2) [] ⟨by simp only; omega,by simp only; omega,hb⟩ (by simp only; omega) ?_
    simp only [mvcgen_simp,method_specs_simp,seval]
  ·simp only [decide_eq_false_iff_not,Zb,Za] at h
   have hb : Gm.bsP (fun e : Ev=>decide (e.id < id)) xs i j = i:=by rw [Gm.bsP,dif_neg h]
   rw [hb]
   refine gB_split (fun h2=>?_) (fun h2=>?_)
   ·simp only [decide_eq_true_eq,Za] at h2
    obtain ⟨y,hy⟩ : ∃ y,xs[i]? = some y:=⟨_,Zc h2⟩
    simp only [method_specs_simp,seval,hy]
    refine ⟨by omega,by omega,by simp [encEv],?_⟩
    rw [show Zt 9 (encEv y) = encEv y from rfl]
    refine clY.con (c_find1 y id) (by simp only [method_specs_simp]) ?_
    simp only [method_specs_simp,seval]
    rw [cmpI_eq]
    simp [Gm.isAtE,hy]
   ·simp only [decide_eq_false_iff_not,Zb,Za] at h2
    have hy : xs[i]? = none:=Yq (by omega)
    simp [Gm.isAtE,hy]
theorem c_find (xs : List Ev) (id : Int) (hx : xs.length * 96 ≤ 2 ^ 47) (hs : Gm.Srt xs) : Con P 180 [.sl 9 (xs.map encEv),.int .i64 id] (.tup [.int .i64 (Gm.posE xs id),.bool (Gm.hasId xs id)]):=by
 refine Con.of (n:=11) (rs:=[.tmp 4,.tmp 5]) (Is.fn Try.func180) rfl (Is.call Try.call180) Try.results180 Try.ntmps180 (by simp only [method_specs_simp]) ?_
 simp only [method_specs_simp,seval]
 refine clY.con (c_bs xs id hx hs) (by simp only [method_specs_simp]) ?_
 simp only [method_specs_simp,seval]
theorem c_has (g : Gr) (id : Int) (hx : g.events.length * 96 ≤ 2 ^ 47) (hs : Gm.Srt g.events) : Con P 166 [.agg (encGr g),.int .i64 id] (.bool (Gm.hasId g.events id)):=by
 refine Con.of (n:=15) (rs:=[.tmp 4]) (Is.fn Try.func166) rfl (Is.call Try.call166) Try.results166 Try.ntmps166 trivial ?_
 simp only [method_specs_simp,seval,encGr]
 refine clY.con (c_find g.events id hx hs) (by simp only [method_specs_simp,encGr]) ?_
 simp only [method_specs_simp,seval,encGr]
theorem c_complete1 (g : Gr) (id : Int) (hx : g.events.length * 96 ≤ 2 ^ 47) (hs : Gm.Srt g.events) : Con P 199 [.int .i64 id,.fptr (encGr g) 0] (.bool (!Gm.hasId g.events id)):=by
 refine Con.of (n:=8) (rs:=[.tmp 3]) (Is.fn Try.func199) rfl (Is.call Try.call199) Try.results199 Try.ntmps199 trivial ?_
 simp only [method_specs_simp,seval]
 refine ⟨by simp [encGr],?_⟩
 rw [show Zt 3 (encGr g) = encGr g from rfl]
 refine clY.con (c_has g id hx hs) (by simp only [method_specs_simp]) ?_
 simp only [method_specs_simp,seval]
def idxP {α : Type} (p : α → Bool) (xs : List α) : Int:=if xs.any p then ((xs.findIdx p : Nat) : Int) else -1
theorem idxP_ge {α : Type} (p : α → Bool) (xs : List α) : decide (idxP p xs ≥ 0) = xs.any p:=by
 unfold idxP
 cases h : xs.any p with
 | true=>simp
 | false=>simp
theorem idxP_hit {α : Type} {p : α → Bool} {x : α} {xs : List α} (h : p x = true) (k : Int) : (if (x :: xs).any p then k + (((x :: xs).findIdx p : Nat) : Int) else -1) = k:=by
 simp [h,ZQ]
theorem idxP_miss {α : Type} {p : α → Bool} {x : α} {xs : List α} (h : p x = false) (k : Nat) : (if (x :: xs).any p then (k : Int) + (((x :: xs).findIdx p : Nat) : Int) else -1) = (if xs.any p then ((k + 1 : Nat) : Int) + ((xs.findIdx p : Nat) : Int) else -1):=by
 simp only [List.any_cons,h,Bool.false_or,ZQ,cond_false]
 split
 ·simp; omega
 ·rfl
theorem c_indexFI (xs : List Int) (f : FuncId) (caps : List V) (p : Int → Bool) (hc : Refs (fun _=>False) caps) (hf : ∀ x ∈ xs,Con P f ([.int .i64 x] ++ caps) (.bool (p x))) (hx : xs.length < 2 ^ 62) : Con P 220 [.sl 1 (xs.map encI),.fn f [] caps] (.int .i64 (idxP p xs)):=by
 refine Con.of (n:=19) (rs:=[.tmp 4]) (Is.fn Try.func220) rfl (Is.call Try.call220) Try.results220 Try.ntmps220 trivial ?_
 simp only [method_specs_simp,seval]
 refine SW.while (A:=Nat) (fun k=>⟨pad 19 [.sl 1 (xs.map encI),.fn f [] caps,.junk,.junk,.int .i64 0,.junk,.sl 1 (xs.map encI),.int .i64 xs.length,.int .i64 k],[],[]⟩) (fun k=>xs.length - k)
  (fun k=>k ≤ xs.length ∧ idxP p xs = if (xs.drop k).any p then (k : Int) + (((xs.drop k).findIdx p : Nat) : Int) else -1) 0 [] ⟨Zh _,by simp [idxP]⟩ ?_ ?_
 ·simp only [mvcgen_simp,method_specs_simp,seval,rens_pure _ hc]
  exact Refs.mono (fun _ h=>h.elim) _ hc
 ·rintro k ⟨hk,hr⟩
  rw [hr]
  refine CW.sound ?_
  simp only [method_specs_simp,seval]
  refine gB_split (fun h=>?_) (fun h=>?_)
  ·simp only [decide_eq_true_eq,Za] at h
   have hxk : xs[k]? = some xs[k]:=Zc h
   have hfk:=hf _ (Zn h)
   generalize xs[k] = x at hxk hfk
   rw [drop_cons hxk]
   simp only [Zg,hxk,encI,method_specs_simp,seval]
   refine ⟨by omega,by omega,?_⟩
   refine clY.conC hfk rfl ⟨trivial,hc⟩ ?_
   simp only [method_specs_simp,seval]
   refine gB_split (fun h1=>?_) (fun h1=>?_)
   ·rw [idxP_hit h1]
   ·rw [wrap_id (by omega) (by omega),idxP_miss h1]
    refine Again.mk (k + 1) [] ⟨h,rfl⟩ (Zd h (Ze _)) ?_
    simp only [mvcgen_simp,method_specs_simp,seval,rens_pure _ hc]
    exact Refs.mono (fun _ h=>h.elim) _ hc
  ·simp only [decide_eq_false_iff_not,Zb,Za] at h
   rw [Zm (by omega)]
   simp
theorem c_containsFI (xs : List Int) (f : FuncId) (caps : List V) (p : Int → Bool) (hc : Refs (fun _=>False) caps) (hf : ∀ x ∈ xs,Con P f ([.int .i64 x] ++ caps) (.bool (p x))) (hx : xs.length < 2 ^ 62) : Con P 198 [.sl 1 (xs.map encI),.fn f [] caps] (.bool (xs.any p)):=by
 refine Con.of (n:=9) (rs:=[.tmp 4]) (Is.fn Try.func198) rfl (Is.call Try.call198) Try.results198 Try.ntmps198 trivial ?_
 simp only [method_specs_simp,seval]
 refine clY.con (c_indexFI xs f caps p hc hf hx) ⟨of_eq_true (encI_refs _ xs),⟨trivial,hc⟩,trivial⟩ ?_
 simp only [method_specs_simp,seval]
 exact idxP_ge p xs
theorem c_complete (g : Gr) (e : Ev) (he : EvOK e) (hx : g.events.length * 96 ≤ 2 ^ 47) (hs : Gm.Srt g.events) : Con P 164 [.agg (encGr g),.agg (encEv e)] (.bool (Gm.allIn g.events e)):=by
 refine Con.of (n:=10) (rs:=[.tmp 4]) (Is.fn Try.func164) rfl (Is.call Try.call164) Try.results164 Try.ntmps164 trivial ?_
 simp only [method_specs_simp,seval,encEv]
 refine clY.conF (c_containsFI e.prev _ [.fptr (encGr g) 0] (fun id=>!Gm.hasId g.events id) ⟨encGr_ref1 _ g,trivial⟩ (fun x _=>c_complete1 g x hx hs) (by have:=he.2; omega)) (by simp only [method_specs_simp,encEv]) (by simp only [method_specs_simp,encEv]) trivial ?_
 simp only [method_specs_simp,seval,encEv]
 unfold Gm.allIn
 rw [YR]
theorem c_indexFE (xs : List Ev) (f : FuncId) (caps : List V) (p : Ev → Bool) (hc : Refs (fun _=>False) caps) (hf : ∀ x ∈ xs,Con P f ([.agg (encEv x)] ++ caps) (.bool (p x))) (hx : xs.length < 2 ^ 62) : Con P 182 [.sl 9 (xs.map encEv),.fn f [] caps] (.int .i64 (idxP p xs)):=by
 refine Con.of (n:=19) (rs:=[.tmp 4]) (Is.fn Try.func182) rfl (Is.call Try.call182) Try.results182 Try.ntmps182 trivial ?_
 simp only [method_specs_simp,seval]
 refine SW.while (A:=Nat) (fun k=>⟨pad 19 [.sl 9 (xs.map encEv),.fn f [] caps,.junk,.junk,.int .i64 0,.junk,.sl 9 (xs.map encEv),.int .i64 xs.length,.int .i64 k],[],[]⟩) (fun k=>xs.length - k)
  (fun k=>k ≤ xs.length ∧ idxP p xs = if (xs.drop k).any p then (k : Int) + (((xs.drop k).findIdx p : Nat) : Int) else -1) 0 [] ⟨Zh _,by simp [idxP]⟩ ?_ ?_
 ·simp only [mvcgen_simp,method_specs_simp,seval,rens_pure _ hc]
  exact Refs.mono (fun _ h=>h.elim) _ hc
 ·rintro k ⟨hk,hr⟩
  rw [hr]
  refine CW.sound ?_
  simp only [method_specs_simp,seval]
  refine gB_split (fun h=>?_) (fun h=>?_)
  ·simp only [decide_eq_true_eq,Za] at h
   have hxk : xs[k]? = some xs[k]:=Zc h
   have hfk:=hf _ (Zn h)
   generalize xs[k] = x at hxk hfk
   rw [drop_cons hxk]
   simp only [Zg,hxk,method_specs_simp,seval]
   refine ⟨by omega,by omega,by simp [encEv],?_⟩
   rw [show Zt 9 (encEv x) = encEv x from rfl]
   refine clY.conC hfk rfl ⟨encEv_ref1 _ x,hc⟩ ?_
   simp only [method_specs_simp,seval]
   refine gB_split (fun h1=>?_) (fun h1=>?_)
   ·rw [idxP_hit h1]
   ·rw [wrap_id (by omega) (by omega),idxP_miss h1]
    refine Again.mk (k + 1) [] ⟨h,rfl⟩ (Zd h (Ze _)) ?_
    simp only [mvcgen_simp,method_specs_simp,seval,rens_pure _ hc]
    exact Refs.mono (fun _ h=>h.elim) _ hc
  ·simp only [decide_eq_false_iff_not,Zb,Za] at h
   rw [Zm (by omega)]
   simp
theorem c_containsFE (xs : List Ev) (f : FuncId) (caps : List V) (p : Ev → Bool) (hc : Refs (fun _=>False) caps) (hf : ∀ x ∈ xs,Con P f ([.agg (encEv x)] ++ caps) (.bool (p x))) (hx : xs.length < 2 ^ 62) : Con P 162 [.sl 9 (xs.map encEv),.fn f [] caps] (.bool (xs.any p)):=by
 refine Con.of (n:=9) (rs:=[.tmp 4]) (Is.fn Try.func162) rfl (Is.call Try.call162) Try.results162 Try.ntmps162 trivial ?_
 simp only [method_specs_simp,seval]
 refine clY.con (c_indexFE xs f caps p hc hf hx) ⟨of_eq_true (encEv_refs _ xs),⟨trivial,hc⟩,trivial⟩ ?_
 simp only [method_specs_simp,seval]
 exact idxP_ge p xs
theorem c_areRight (g : Gr) (xs : List Ev) (hx : EvsOK xs) : Con P 161 [.agg (encGr g),.sl 9 (xs.map encEv)] (.bool (Gm.rowFrom g.room none xs)):=by
 have hx1:=hx.1
 refine Con.of (n:=40) (rs:=[.tmp 4]) (Is.fn Try.func161) rfl (Is.call Try.call161) Try.results161 Try.ntmps161 trivial ?_
 simp only [method_specs_simp,seval,encGr]
 refine SW.while (A:=Nat) (fun k=>⟨pad 40 [.agg (encGr g),.sl 9 (xs.map encEv),.ptr 0 0,.junk,.bool false,.junk,.junk,.sl 9 (xs.map encEv),.int .i64 xs.length,.int .i64 k],[.box true (encGr g)],[]⟩) (fun k=>xs.length - k)
  (fun k=>k ≤ xs.length ∧ Gm.rowFrom g.room none xs = Gm.rowFrom g.room ((pv xs k).map (·.id)) (xs.drop k)) 0 [0] ⟨Zh _,rfl⟩ ?_ ?_
 ·simp only [mvcgen_simp,method_specs_simp,seval,encGr]
 ·rintro k ⟨hk,hr⟩
  rw [hr]
  refine CW.sound ?_
  simp only [method_specs_simp,seval,encGr]
  refine gB_split (fun h=>?_) (fun h=>?_)
  ·simp only [decide_eq_true_eq,Za] at h
   have hxk : xs[k]? = some xs[k]:=Zc h
   have hOK:=hx.2 _ (Zn h)
   generalize xs[k] = x at hxk hOK
   rw [drop_cons hxk,Gm.rowFrom]
   simp only [Zg,hxk,encEv,encGr,method_specs_simp,seval]
   refine ⟨by omega,by omega,by kernel_rfl,?_⟩
   refine clY.con (c_EventRight x hOK) (by simp only [method_specs_simp,encGr]) ?_
   simp only [method_specs_simp,seval,encGr,encEv]
   cases g1 : Gm.evRight x
   ·simp only [method_specs_simp,seval,encGr]
    simp
   ·have e2 : (x.room != g.room) = !(x.room == g.room):=rfl
    simp only [method_specs_simp,seval,encGr,e2]
    cases g2 : (x.room == g.room)
    ·simp only [method_specs_simp,seval,encGr]
     simp
    ·simp only [method_specs_simp,seval,encGr]
     refine gB_split (fun h2=>?_) (fun h2=>?_)
     ·simp at h2
      obtain ⟨j,rfl⟩ : ∃ j,k = j + 1:=⟨k - 1,by omega⟩
      obtain ⟨y,hyk⟩ : ∃ y,xs[j]? = some y:=⟨_,Zc (by omega)⟩
      have e4 : IntKind.i64.wrap (((j + 1 : Nat) : Int) - 1) = (j : Int):=by rw [wrap_id (by omega) (by omega)]; omega
      have ep : pv xs (j + 1) = some y:=hyk
      have e7 : pv xs (j + 1 + 1) = some x:=hxk
      rw [e4,ep]
      refine ⟨by omega,by omega,?_⟩
      simp only [method_specs_simp,seval,encGr,hyk,encEv]
      refine gB_split (fun h3=>?_) (fun h3=>?_)
      ·simp at h3
       simp [Gm.notLess,h3]
      ·simp at h3
       have e9 : decide (y.id ≥ x.id) = false:=by simp; exact h3
       rw [wrap_id (by omega) (by omega)]
       refine Again.mk (j + 1 + 1) [0] ⟨h,?_⟩ (Zd h (Ze _)) ?_
       ·rw [e7]
        simp only [ZO,Gm.notLess,e9,Zk,Yy]
       ·simp only [mvcgen_simp,method_specs_simp,seval,encGr,encGr]
     ·simp at h2
      have hk0 : k = 0:=by omega
      subst hk0
      rw [wrap_id (by omega) (by omega)]
      refine Again.mk 1 [0] ⟨h,?_⟩ (Zd h (Ze _)) ?_
      ·have e7 : pv xs 1 = some x:=hxk
       rw [e7]
       simp [Gm.notLess,pv]
      ·simp only [mvcgen_simp,method_specs_simp,seval,encGr,encGr]
  ·simp only [decide_eq_false_iff_not,Zb,Za] at h
   rw [Zm (by omega),Gm.rowFrom]
end
structure DepI (evs : List Ev) (d : List Int) : Prop where
 ok : Gm.OkD evs d
 bd : Gm.BdD evs d
theorem DepI.le {evs : List Ev} {d : List Int} (h : DepI evs d) (p : Int) : 0 ≤ Gm.dAt evs d p ∧ Gm.dAt evs d p ≤ evs.length:=by
 have h1:=Gm.getD_nn h.ok.nn (Gm.fidE evs p)
 have h2:=Gm.getD_bd h.bd (by have:=Gm.zer_le d; have:=h.ok.len; omega) (Gm.fidE evs p)
 unfold Gm.dAt
 omega
section
variable {P : Program} [Is P]
theorem c_depths (g : Gr) (hx : EvsOK g.events) (hs : Gm.Srt g.events) (hin : ∀ e ∈ g.events,Gm.allIn g.events e = true) : Con P 167 [.agg (encGr g)] (.tup [.sl 1 ((Gm.depthsE g.events).map encI),.bool (Gm.allPos (Gm.depthsE g.events))]):=by
 have hx1:=hx.1
 refine Con.of (n:=78) (rs:=[.tmp 2,.tmp 3]) (Is.fn Try.func167) rfl (Is.call Try.call167) Try.results167 Try.ntmps167 (by simp only [method_specs_simp]) ?_
 simp only [method_specs_simp,seval,encGr]
 refine ⟨by kernel_rfl,by omega,by omega,by omega,?_⟩
 have ez : Zj g.events.length [V.int IntKind.i64 0] = (Zj g.events.length (0 : Int)).map encI:=by simp [encI]
 rw [ez]
 refine SW.while (A:=List Int × Bool) (fun a=>⟨pad 78 [.junk,.ptr 0 0,.nil,.bool false,.ar 1 0 g.events.length,.int .i64 (Gm.zer a.1 : Nat),.bool a.2],[.box true (encGr g),.arr true 1 (a.1.map encI)],[]⟩)
  (fun a=>Gm.zer a.1 + (if a.2 then 1 else 0)) (fun a=>DepI g.events a.1 ∧ ∃ j,a.1 = Gm.iterD g.events j (Zj g.events.length 0) ∧ j + Gm.zer a.1 ≤ g.events.length ∧ (a.2 = true ∨ Gm.passD g.events a.1 = a.1))
  (Zj g.events.length 0,true) [0,1] ⟨⟨Gm.OkD.zero _,Gm.BdD.zero _⟩,0,rfl,by rw [Gm.zer_rep]; omega,.inl rfl⟩ ?_ ?_
 ·rw [Gm.zer_rep]
  simp only [mvcgen_simp,method_specs_simp,seval,encGr]
 ·rintro ⟨d,ch⟩ ⟨hd,j0,hj1,hj2,hj3⟩
  simp only at hd hj1 hj2 hj3
  refine CW.sound ?_
  have hlen:=hd.ok.len
  simp only [method_specs_simp,seval,encGr]
  have fin : Gm.passD g.events d = d → Gm.depthsE g.events = d:=fun h=>Gm.depths_of hj1 hj2 h
  have finz : Gm.zer d = 0 → Gm.depthsE g.events = d:=fun h=>fin (Gm.pass_done hd.ok h)
  refine gB_split (fun hc=>?_) (fun hc=>?_)
  ·refine gB_split (fun hz=>?_) (fun hz=>?_)
   ·simp only [decide_eq_true_eq] at hz
    refine SW.while (A:=Nat) (fun k=>⟨pad 78 ([.junk,.ptr 0 0,.nil,.bool false,.ar 1 0 g.events.length,.int .i64 (Gm.zer (Gm.passK g.events d k) : Nat),.bool (decide (Gm.zer (Gm.passK g.events d k) < Gm.zer d))] ++ Zj 20 .junk ++ [.sl 9 (g.events.map encEv),.int .i64 g.events.length,.int .i64 k]),[.box true (encGr g),.arr true 1 ((Gm.passK g.events d k).map encI)],[]⟩)
     (fun k=>g.events.length - k) (fun k=>k ≤ g.events.length) 0 [0,1] (Zh _) ?_ ?_
    ·rw [Gm.passK_zero,show decide (Gm.zer d < Gm.zer d) = false by simp]
     simp only [mvcgen_simp,method_specs_simp,seval,encGr]
    ·intro k hk
     have hdk : DepI g.events (Gm.passK g.events d k):=⟨Gm.passK_ok hd.ok k,Gm.passK_bd hd.ok hd.bd k⟩
     have hsucc:=Gm.passK_succ g.events d k
     generalize hD : Gm.passK g.events d k = D at hdk hsucc
     have hDl:=hdk.ok.len
     refine CW.sound ?_
     simp only [method_specs_simp,seval,encGr]
     refine gB_split (fun h=>?_) (fun h=>?_)
     ·simp only [decide_eq_true_eq,Za] at h
      have hxk : g.events[k]? = some g.events[k]:=Zc h
      have hOK:=hx.2 _ (Zn h)
      have hIn:=hin _ (Zn h)
      generalize g.events[k] = e at hxk hOK hIn
      obtain ⟨x,hDk⟩ : ∃ x,D[k]? = some x:=⟨_,Zc (by omega)⟩
      have hDg : D.getD k 0 = x:=by rw [Zp,hDk]; rfl
      have hk1 : IntKind.i64.wrap ((k : Int) + 1) = ((k + 1 : Nat) : Int):=by rw [wrap_id (by omega) (by omega)]; rfl
      simp only [Zg,hxk,hDk,encEv,encGr,encI,method_specs_simp,seval,hk1]
      refine ⟨by omega,by omega,by omega,by omega,?_⟩
      have hzle : Gm.zer D ≤ Gm.zer d:=by
       rcases Gm.passK_zer hd.ok k with h1 | h1
       ·rw [hD] at h1; rw [h1]; exact Zl _
       ·rw [hD] at h1; omega
      have hx0 : 0 ≤ x:=hdk.ok.nn x (ZG hDk)
      refine gB_split (fun h1=>?_) (fun h1=>?_)
      ·simp only [decide_eq_true_eq] at h1
       have hst : Gm.stepD g.events D k = D:=by unfold Gm.stepD; rw [hDg,if_pos h1]
       refine Again.mk (k + 1) [0,1] h (Zd h (Ze _)) ?_
       rw [hsucc,hst]
       simp only [mvcgen_simp,method_specs_simp,seval,encGr]
      ·simp only [decide_eq_false_iff_not,Zb] at h1
       have hxz : x = 0:=by omega
       subst hxz
       have hzz : 1 ≤ Gm.zer D:=by
        have:=Gm.zer_set hDk (x:=1) (by decide)
        omega
       refine SW.while (A:=Nat × Int) (fun a=>⟨pad 78 ([.junk,.ptr 0 0,.nil,.bool false,.ar 1 0 g.events.length,.int .i64 (Gm.zer D : Nat),.bool (decide (Gm.zer D < Gm.zer d)),.int .i64 k,.ptr 2 0,.int .i64 a.2] ++ Zj 17 .junk ++ [.sl 9 (g.events.map encEv),.int .i64 g.events.length,.int .i64 k] ++ Zj 10 .junk ++ [.sl 1 (e.prev.map encI),.int .i64 e.prev.length,.int .i64 a.1]),[.box true (encGr g),.arr true 1 (D.map encI),.box true (encEv e)],[]⟩)
        (fun a=>e.prev.length - a.1) (fun a=>a.1 ≤ e.prev.length ∧ 1 ≤ a.2 ∧ a.2 ≤ g.events.length + 1 ∧ Gm.ownD g.events D e = if (e.prev.drop a.1).all (fun p=>decide (Gm.dAt g.events D p > 0)) then (e.prev.drop a.1).foldl (fun o p=>if Gm.dAt g.events D p + 1 > o then Gm.dAt g.events D p + 1 else o) a.2 else 0) (0,1) [0,1,2]
        ⟨Zh _,Yh _,by simp only; omega,Gm.ownD_fold _ _ _⟩ ?_ ?_
       ·simp only [mvcgen_simp,method_specs_simp,seval,encGr,encEv]
       ·rintro ⟨j,own⟩ ⟨hj,ho1,ho2,hown⟩
        simp only at hj ho1 ho2 hown
        have hel:=hOK.2
        refine CW.sound ?_
        simp only [encEv,method_specs_simp,seval,encGr]
        refine gB_split (fun h3=>?_) (fun h3=>?_)
        ·simp only [decide_eq_true_eq,Za] at h3
         have hpj : e.prev[j]? = some e.prev[j]:=Zc h3
         have hpin : Gm.hasId g.events e.prev[j] = true:=Ya.1 hIn _ (Zn h3)
         generalize e.prev[j] = q at hpj hpin
         have hDq:=Gm.dAt_get hs hdk.ok hpin
         obtain ⟨hq0,hq1⟩:=hdk.le q
         have hpos : Gm.posE g.events q < g.events.length:=by have:=Gm.fid_lt hpin; rw [Gm.fid_pos hs hpin] at this; exact this
         rw [drop_cons hpj] at hown
         simp only [Zg,hpj,encEv,encGr,encI,method_specs_simp,seval]
         refine ⟨by omega,by omega,?_⟩
         refine clY.con (c_find g.events q (by omega) hs) (by simp only [method_specs_simp]) ?_
         simp only [Zg,hDq,encEv,encGr,encI,method_specs_simp,seval]
         refine ⟨by omega,by omega,?_⟩
         refine gB_split (fun h4=>?_) (fun h4=>?_)
         ·simp only [beq_iff_eq] at h4
          have hz0 : Gm.ownD g.events D e = 0:=by
           rw [hown]
           simp [h4]
          have hst : Gm.stepD g.events D k = D:=by unfold Gm.stepD; rw [hDg,if_neg (by decide),hxk]; simp only; rw [hz0,if_neg (by decide)]
          rw [hk1]
          refine Again.mk (k + 1) [0,1] h (Zd h (Ze _)) ?_
          rw [hsucc,hst]
          simp only [mvcgen_simp,method_specs_simp,seval,encGr]
         ·simp only [Zb,beq_eq_false_iff_ne,ne_eq] at h4
          have w1 : IntKind.i64.wrap (Gm.dAt g.events D q + 1) = Gm.dAt g.events D q + 1:=wrap_id (by omega) (by omega)
          refine ⟨by omega,by omega,?_⟩
          simp only [w1,mm,encEv,encGr,encI,method_specs_simp,seval]
          rw [wrap_id (n:=(j : Int) + 1) (by omega) (by omega)]
          refine Again.mk (j + 1,if Gm.dAt g.events D q + 1 > own then Gm.dAt g.events D q + 1 else own) [0,1,2] ⟨h3,?_,?_,?_⟩ (Zd h3 (Ze _)) ?_
          ·simp only; split <;> omega
          ·simp only; split <;> omega
          ·rw [hown]
           have : decide (Gm.dAt g.events D q > 0) = true:=by simp; omega
           simp only [List.all_cons,this,Zk,ZW]
          ·simp only [mvcgen_simp,method_specs_simp,seval,encGr,encEv,encGr]
        ·simp only [decide_eq_false_iff_not,Zb,Za] at h3
         rw [Zm (by omega)] at hown
         simp only [Yk,if_true,List.foldl_nil] at hown
         have hop : decide (own > 0) = true:=by simp; omega
         have w2 : IntKind.i64.wrap (((Gm.zer D : Nat) : Int) - 1) = ((Gm.zer D - 1 : Nat) : Int):=by
          have:=Gm.zer_le D
          rw [wrap_id (by omega) (by omega)]; omega
         have hst : Gm.stepD g.events D k = D.set k own:=by unfold Gm.stepD; rw [hDg,if_neg (by decide),hxk]; simp only; rw [hown,if_pos (by omega)]
         have hzs:=Gm.zer_set hDk (x:=own) (by omega)
         have eg : (D.map encI).getD k [] = encI 0:=by rw [Zp,map_getE _ hDk]; rfl
         have es : (D.map encI).set k (V.int IntKind.i64 own :: ZY 1 ((D.map encI).getD k [])) = (D.set k own).map encI:=by rw [eg,Yi]; rfl
         simp only [hop,w2,hk1,encEv,encGr,method_specs_simp,seval]
         refine ⟨by omega,by omega,by omega,?_⟩
         rw [es]
         refine Again.mk (k + 1) [0,1] h (Zd h (Ze _)) ?_
         have ec : decide (Gm.zer (D.set k own) < Gm.zer d) = true:=by simp; omega
         rw [hsucc,hst,ec,show Gm.zer D - 1 = Gm.zer (D.set k own) by omega]
         simp only [mvcgen_simp,method_specs_simp,seval,encGr]
     ·simp only [decide_eq_false_iff_not,Zb,Za] at h
      have hkn : k = g.events.length:=by omega
      subst hkn
      have hpD : Gm.passD g.events d = D:=hD
      rcases Gm.passK_zer hd.ok g.events.length with h1 | h1
      ·rw [hD] at h1
       subst h1
       refine Again.mk (D,decide (Gm.zer D < Gm.zer D)) [0,1] ⟨hdk,j0,hj1,hj2,.inr hpD⟩ (by simp [hc]) ?_
       simp only [mvcgen_simp,method_specs_simp,seval,encGr]
      ·rw [hD] at h1
       refine Again.mk (D,decide (Gm.zer D < Gm.zer d)) [0,1] ⟨hdk,j0 + 1,?_,?_,.inl (by simpa using h1)⟩ (by simp [hc,h1]) ?_
       ·simp only
        rw [Gm.iter_succ,← hj1,hpD]
       ·simp only; omega
       ·simp only [mvcgen_simp,method_specs_simp,seval,encGr]
   ·simp only [decide_eq_false_iff_not,Zb] at hz
    have hz0 : Gm.zer d = 0:=by omega
    have ht : Zt g.events.length (ZT encI d) = ZT encI d:=ZD (by simp [hlen])
    rw [Gm.allPos_iff,finz hz0,hz0,ht]
    simp [encI_refs]
  ·simp only [Zb] at hc
   have:=fin (hj3.resolve_left (by simp [hc]))
   have ht : Zt g.events.length (ZT encI d) = ZT encI d:=ZD (by simp [hlen])
   have e0 : (((Gm.zer d : Nat) : Int) == 0) = decide (Gm.zer d = 0):=by
    rw [ZM]; simp
   rw [Gm.allPos_iff,this,ht,e0]
   simp [encI_refs]
end
theorem apart_sym (l m : List Ev) : (l.all fun e=>!Gm.hasId m e.id) = (m.all fun e=>!Gm.hasId l e.id):=by
 rw [ZM]
 simp only [Ya,Yp,← Bool.not_eq_true,Gm.hasId_iff]
 constructor
 ·rintro h e he ⟨x,hx,hxe⟩
  exact h x hx ⟨e,he,hxe.symm⟩
 ·rintro h e he ⟨x,hx,hxe⟩
  exact h x hx ⟨e,he,hxe.symm⟩
theorem grRight_impl (g : Gr) : (!(g.events.any fun e=>!Gm.allIn g.events e) && (!(g.parked.any fun e=>Gm.hasId g.events e.id || Gm.allIn g.events e) && Gm.allPos (Gm.depthsE g.events))) = ((g.events.all fun e=>Gm.allIn g.events e && !Gm.hasId g.parked e.id) && ((g.parked.all fun e=>!Gm.allIn g.events e) && Gm.allPos (Gm.depthsE g.events))):=by
 have h1 : (g.events.all fun e=>Gm.allIn g.events e && !Gm.hasId g.parked e.id) = ((g.events.all fun e=>Gm.allIn g.events e) && (g.events.all fun e=>!Gm.hasId g.parked e.id)):=by
  rw [ZM]; simp only [Ya,Yo]
  exact ⟨fun h=>⟨fun e he=>(h e he).1,fun e he=>(h e he).2⟩,fun h e he=>⟨h.1 e he,h.2 e he⟩⟩
 have h2 : (!(g.parked.any fun e=>Gm.hasId g.events e.id || Gm.allIn g.events e)) = ((g.parked.all fun e=>!Gm.hasId g.events e.id) && (g.parked.all fun e=>!Gm.allIn g.events e)):=by
  rw [ZM]; simp only [Ya,Yo,Yp,Yg,Bool.or_eq_true,not_or,Bool.not_eq_true]
  exact ⟨fun h=>⟨fun e he=>(h e he).1,fun e he=>(h e he).2⟩,fun h e he=>⟨h.1 e he,h.2 e he⟩⟩
 have h3 : (!(g.events.any fun e=>!Gm.allIn g.events e)) = (g.events.all fun e=>Gm.allIn g.events e):=by rw [YR]
 rw [h1,h2,h3,apart_sym g.events g.parked]
 cases (g.events.all fun e=>Gm.allIn g.events e) <;> cases (g.parked.all fun e=>!Gm.hasId g.events e.id) <;> cases (g.parked.all fun e=>!Gm.allIn g.events e) <;> cases Gm.allPos (Gm.depthsE g.events) <;> rfl
section
variable {P : Program} [Is P]
theorem c_GR1 (g : Gr) (e : Ev) (he : EvOK e) (hx : g.events.length * 96 ≤ 2 ^ 47) (hs : Gm.Srt g.events) : Con P 163 [.agg (encEv e),.fptr (encGr g) 0] (.bool (!Gm.allIn g.events e)):=by
 refine Con.of (n:=8) (rs:=[.tmp 3]) (Is.fn Try.func163) rfl (Is.call Try.call163) Try.results163 Try.ntmps163 trivial ?_
 simp only [method_specs_simp,seval]
 refine ⟨by simp [encGr],by simp [encEv],?_⟩
 rw [show Zt 3 (encGr g) = encGr g from rfl,show Zt 9 (encEv e) = encEv e from rfl]
 refine clY.con (c_complete g e he hx hs) (by simp only [method_specs_simp]) ?_
 simp only [method_specs_simp,seval]
theorem c_GR2 (g : Gr) (e : Ev) (he : EvOK e) (hx : g.events.length * 96 ≤ 2 ^ 47) (hs : Gm.Srt g.events) : Con P 165 [.agg (encEv e),.fptr (encGr g) 0] (.bool (Gm.hasId g.events e.id || Gm.allIn g.events e)):=by
 have h1 : Zt 3 (encGr g) = encGr g:=rfl
 refine Con.of (n:=13) (rs:=[.tmp 3]) (Is.fn Try.func165) rfl (Is.call Try.call165) Try.results165 Try.ntmps165 trivial ?_
 simp only [method_specs_simp,seval,encEv]
 refine ⟨by simp [encGr],?_⟩
 rw [h1]
 refine clY.con (c_has g e.id hx hs) (by simp only [method_specs_simp,encEv]) ?_
 simp only [method_specs_simp,seval,encEv]
 cases g1 : Gm.hasId g.events e.id
 ·simp only [method_specs_simp,seval,encEv]
  refine ⟨by simp [encGr],?_⟩
  rw [h1]
  refine clY.con (c_complete g e he hx hs) (by simp only [method_specs_simp,encEv]) ?_
  simp only [method_specs_simp,seval,encEv]
  simp
 ·simp only [method_specs_simp,seval,encEv]
  simp
theorem c_GraphRight (g : Gr) (hg : GrOK g) : Con P 114 [.agg (encGr g)] (.bool (Gm.grRight g)):=by
 have hg1:=hg.1.1
 have hg2:=hg.2.1
 refine Con.of (n:=49) (rs:=[.tmp 2]) (Is.fn Try.func114) rfl (Is.call Try.call114) Try.results114 Try.ntmps114 trivial ?_
 simp only [method_specs_simp,seval,encGr]
 refine clY.con (c_isRoom g.room) (by simp only [method_specs_simp,encGr]) ?_
 simp only [method_specs_simp,seval,encGr]
 cases g1 : Gm.isB g.room 1 3
 ·simp only [method_specs_simp,seval,encGr]
  simp [Gm.grRight,g1]
 ·simp only [method_specs_simp,seval,encGr]
  cases g2 : decide ((g.events.length : Int) > 60)
  rotate_left
  ·simp only [method_specs_simp,seval,encGr,g2]
   have : ¬ ((g.events.length : Int) ≤ 60):=by simp at g2; omega
   simp [Gm.grRight,Gm.rowR,this]
  have l1 : decide ((g.events.length : Int) ≤ 60) = true:=by simp at g2 ⊢; omega
  simp only [method_specs_simp,seval,encGr,g2]
  cases g3 : decide ((g.parked.length : Int) > 20)
  rotate_left
  ·simp only [method_specs_simp,seval,encGr,g3]
   have : ¬ ((g.parked.length : Int) ≤ 20):=by simp at g3; omega
   simp [Gm.grRight,Gm.rowR,this]
  have l2 : decide ((g.parked.length : Int) ≤ 20) = true:=by simp at g3 ⊢; omega
  simp only [method_specs_simp,seval,encGr,g3]
  refine clY.con (c_areRight g g.events hg.1) (by simp only [method_specs_simp,encGr]) ?_
  simp only [method_specs_simp,seval,encGr]
  cases g4 : Gm.rowFrom g.room none g.events
  ·simp only [method_specs_simp,seval,encGr]
   simp [Gm.grRight,Gm.rowR,g4]
  simp only [method_specs_simp,seval,encGr]
  refine clY.con (c_areRight g g.parked hg.2) (by simp only [method_specs_simp,encGr]) ?_
  simp only [method_specs_simp,seval,encGr]
  cases g5 : Gm.rowFrom g.room none g.parked
  ·simp only [method_specs_simp,seval,encGr]
   simp [Gm.grRight,Gm.rowR,g5]
  simp only [method_specs_simp,seval,encGr]
  have hs:=(Gm.rowFrom_srt g4).1
  have hR:=grRight_impl g
  have hG : Gm.grRight g = (!(g.events.any fun e=>!Gm.allIn g.events e) && (!(g.parked.any fun e=>Gm.hasId g.events e.id || Gm.allIn g.events e) && Gm.allPos (Gm.depthsE g.events))):=by
   rw [hR]
   simp only [Gm.grRight,Gm.rowR,g1,l1,l2,g4,g5,Zk]
  rw [hG]
  refine clY.conF (c_containsFE g.events _ [.fptr (encGr g) 0] (fun e=>!Gm.allIn g.events e) ⟨encGr_ref1 _ g,trivial⟩ (fun x hx=>c_GR1 g x (hg.1.2 x hx) hg1 hs) (by omega)) (by simp only [method_specs_simp,encGr]) ⟨of_eq_true (encEv_refs _ _),⟨trivial,encGr_ref1 _ g,trivial⟩,trivial⟩ trivial ?_
  simp only [method_specs_simp,seval,encGr]
  cases g6 : (g.events.any fun e=>!Gm.allIn g.events e)
  rotate_left
  ·simp only [method_specs_simp,seval,encGr]
   simp
  simp only [method_specs_simp,seval,encGr]
  refine clY.conF (c_containsFE g.parked _ [.fptr (encGr g) 0] (fun e=>Gm.hasId g.events e.id || Gm.allIn g.events e) ⟨encGr_ref1 _ g,trivial⟩ (fun x hx=>c_GR2 g x (hg.2.2 x hx) hg1 hs) (by omega)) (by simp only [method_specs_simp,encGr]) ⟨of_eq_true (encEv_refs _ _),⟨trivial,encGr_ref1 _ g,trivial⟩,trivial⟩ trivial ?_
  simp only [method_specs_simp,seval,encGr]
  cases g7 : (g.parked.any fun e=>Gm.hasId g.events e.id || Gm.allIn g.events e)
  rotate_left
  ·simp only [method_specs_simp,seval,encGr]
   simp
  simp only [method_specs_simp,seval,encGr]
  have hin : ∀ e ∈ g.events,Gm.allIn g.events e = true:=fun e he=>by
   have:=Yg.1 g6 e he
   simpa using this
  refine clY.con (c_depths g hg.1 hs hin) (by simp only [method_specs_simp,encGr]) ?_
  simp only [method_specs_simp,seval,encGr]
end
def atI (l : List Ev) (id : Int) : Int:=if Gm.hasId l id then ((Gm.fidE l id : Nat) : Int) else -1
theorem atI_yes {l : List Ev} {id : Int} (h : Gm.hasId l id = true) : atI l id = (Gm.fidE l id : Nat):=by unfold atI; rw [if_pos h]
theorem atI_no {l : List Ev} {id : Int} (h : Gm.hasId l id = false) : atI l id = -1:=by unfold atI; rw [if_neg (by simp [h])]
theorem atI_lt (l : List Ev) (id : Int) : decide (atI l id < 0) = !Gm.hasId l id:=by
 cases h : Gm.hasId l id with
 | true=>rw [atI_yes h]; simp
 | false=>rw [atI_no h]; simp
theorem atI_ge (l : List Ev) (id : Int) : decide (atI l id ≥ 0) = Gm.hasId l id:=by
 cases h : Gm.hasId l id with
 | true=>rw [atI_yes h]; simp
 | false=>rw [atI_no h]; simp
theorem dAt_fid {evs : List Ev} {d : List Int} (h : Gm.OkD evs d) {p : Int} (hp : Gm.hasId evs p = true) : d[Gm.fidE evs p]? = some (Gm.dAt evs d p):=by
 have h2:=Gm.fid_lt hp
 have h3 : Gm.fidE evs p < d.length:=by rw [h.len]; exact h2
 unfold Gm.dAt
 rw [Zc h3,Zp,Zc h3]
 rfl
section
variable {P : Program} [Is P]
theorem c_l03At (xs : List Ev) (id : Int) (hx : xs.length < 2 ^ 62) : Con P 111 [.sl 9 (xs.map encEv),.int .i64 id] (.int .i64 (atI xs id)):=by
 refine Con.of (n:=20) (rs:=[.tmp 4]) (Is.fn Try.func111) rfl (Is.call Try.call111) Try.results111 Try.ntmps111 trivial ?_
 simp only [method_specs_simp,seval]
 refine SW.while (A:=Nat) (fun k=>⟨pad 20 [.sl 9 (xs.map encEv),.int .i64 id,.junk,.junk,.int .i64 0,.int .i64 k],[],[]⟩) (fun k=>xs.length - k)
  (fun k=>k ≤ xs.length ∧ atI xs id = if (xs.drop k).any (fun e=>e.id == id) then (k : Int) + (((xs.drop k).findIdx (fun e=>e.id == id) : Nat) : Int) else -1) 0 [] ⟨Zh _,by simp [atI,Gm.hasId,Gm.fidE]⟩ ?_ ?_
 ·simp only [mvcgen_simp,method_specs_simp,seval]
 ·rintro k ⟨hk,hr⟩
  rw [hr]
  refine CW.sound ?_
  simp only [method_specs_simp,seval]
  refine gB_split (fun h=>?_) (fun h=>?_)
  ·simp only [decide_eq_true_eq,Za] at h
   obtain ⟨x,hxk⟩ : ∃ x,xs[k]? = some x:=⟨_,Zc h⟩
   rw [drop_cons hxk]
   simp only [Zg,hxk,encEv,method_specs_simp,seval]
   refine ⟨by omega,by omega,?_⟩
   refine gB_split (fun h1=>?_) (fun h1=>?_)
   ·rw [idxP_hit (p:=fun e : Ev=>e.id == id) h1]
   ·rw [wrap_id (by omega) (by omega),idxP_miss (p:=fun e : Ev=>e.id == id) h1]
    refine Again.mk (k + 1) [] ⟨h,rfl⟩ (Zd h (Ze _)) ?_
    simp only [mvcgen_simp,method_specs_simp,seval]
  ·simp only [decide_eq_false_iff_not,Zb,Za] at h
   rw [Zm (by omega)]
   simp
theorem c_l03All (xs : List Ev) (e : Ev) (he : EvOK e) (hx : xs.length < 2 ^ 62) : Con P 155 [.sl 9 (xs.map encEv),.agg (encEv e)] (.bool (Gm.allIn xs e)):=by
 have he2:=he.2
 refine Con.of (n:=21) (rs:=[.tmp 4]) (Is.fn Try.func155) rfl (Is.call Try.call155) Try.results155 Try.ntmps155 trivial ?_
 simp only [method_specs_simp,seval,encEv]
 refine SW.while (A:=Nat) (fun k=>⟨pad 21 [.sl 9 (xs.map encEv),.junk,.junk,.ptr 0 0,.bool false,.int .i64 k],[.box true (encEv e)],[]⟩) (fun k=>e.prev.length - k)
  (fun k=>k ≤ e.prev.length ∧ Gm.allIn xs e = (e.prev.drop k).all (Gm.hasId xs)) 0 [0] ⟨Zh _,rfl⟩ ?_ ?_
 ·simp only [mvcgen_simp,method_specs_simp,seval,encEv]
 ·rintro k ⟨hk,hr⟩
  rw [hr]
  refine CW.sound ?_
  simp only [method_specs_simp,seval,encEv]
  refine gB_split (fun h=>?_) (fun h=>?_)
  ·simp only [decide_eq_true_eq,Za] at h
   obtain ⟨x,hxk⟩ : ∃ x,e.prev[k]? = some x:=⟨_,Zc h⟩
   rw [drop_cons hxk]
   simp only [Zg,hxk,encI,encEv,method_specs_simp,seval]
   refine ⟨by omega,by omega,?_⟩
   refine clY.con (c_l03At xs x hx) (by simp only [method_specs_simp,encEv]) ?_
   simp only [method_specs_simp,seval,encEv]
   rw [atI_lt]
   refine gB_split (fun h1=>?_) (fun h1=>?_)
   ·simp at h1
    simp [h1]
   ·simp at h1
    rw [wrap_id (by omega) (by omega)]
    refine Again.mk (k + 1) [0] ⟨h,by simp [h1]⟩ (Zd h (Ze _)) ?_
    simp only [mvcgen_simp,method_specs_simp,seval,encEv]
  ·simp only [decide_eq_false_iff_not,Zb,Za] at h
   rw [Zm (by omega)]
   simp
theorem c_l03Row (xs : List Ev) (room most : Int) (hx : EvsOK xs) : Con P 154 [.sl 9 (xs.map encEv),.int .i64 room,.int .i64 most] (.bool (Gm.rowR xs room most)):=by
 have hx1:=hx.1
 refine Con.of (n:=51) (rs:=[.tmp 6]) (Is.fn Try.func154) rfl (Is.call Try.call154) Try.results154 Try.ntmps154 trivial ?_
 simp only [method_specs_simp,seval]
 refine gB_split (fun h=>?_) (fun h=>?_)
 ·simp at h
  have : ¬ ((xs.length : Int) ≤ most):=by omega
  simp [Gm.rowR,this]
 ·simp at h
  have : ((xs.length : Int) ≤ most):=by omega
  simp only [Gm.rowR,this,decide_true,Zk]
  refine SW.while (A:=Nat) (fun k=>⟨pad 51 [.sl 9 (xs.map encEv),.int .i64 room,.int .i64 most,.junk,.junk,.junk,.bool false,.int .i64 k],[],[]⟩) (fun k=>xs.length - k)
   (fun k=>k ≤ xs.length ∧ Gm.rowFrom room none xs = Gm.rowFrom room ((pv xs k).map (·.id)) (xs.drop k)) 0 [] ⟨Zh _,rfl⟩ ?_ ?_
  ·simp only [mvcgen_simp,method_specs_simp,seval]
  ·rintro k ⟨hk,hr⟩
   rw [hr]
   refine CW.sound ?_
   simp only [method_specs_simp,seval]
   refine gB_split (fun h=>?_) (fun h=>?_)
   ·simp only [decide_eq_true_eq,Za] at h
    have hxk : xs[k]? = some xs[k]:=Zc h
    have hOK:=hx.2 _ (Zn h)
    generalize xs[k] = x at hxk hOK
    rw [drop_cons hxk,Gm.rowFrom]
    simp only [Zg,hxk,encEv,method_specs_simp,seval]
    refine ⟨by kernel_rfl,by omega,by omega,?_⟩
    refine clY.con (c_sEventRight x hOK) (by simp only [method_specs_simp]) ?_
    simp only [Zg,hxk,encEv,method_specs_simp,seval]
    cases g1 : Gm.evRight x
    ·simp only [method_specs_simp,seval]
     simp
    ·have e2 : (x.room != room) = !(x.room == room):=rfl
     simp only [Zg,hxk,encEv,e2,method_specs_simp,seval]
     refine ⟨by omega,by omega,?_⟩
     cases g2 : (x.room == room)
     ·simp only [method_specs_simp,seval]
      simp
     ·simp only [method_specs_simp,seval]
      refine gB_split (fun h2=>?_) (fun h2=>?_)
      ·simp at h2
       obtain ⟨j,rfl⟩ : ∃ j,k = j + 1:=⟨k - 1,by omega⟩
       obtain ⟨y,hyk⟩ : ∃ y,xs[j]? = some y:=⟨_,Zc (by omega)⟩
       have e4 : IntKind.i64.wrap (((j + 1 : Nat) : Int) - 1) = (j : Int):=by rw [wrap_id (by omega) (by omega)]; omega
       have e8 : ((j : Int) + 1).toNat = j + 1:=by omega
       have ep : pv xs (j + 1) = some y:=hyk
       have e7 : pv xs (j + 1 + 1) = some x:=hxk
       rw [e4,ep]
       refine ⟨by omega,by omega,?_⟩
       simp only [hyk,hxk,e8,ZO,encEv,method_specs_simp,seval]
       refine ⟨by omega,by omega,?_⟩
       refine gB_split (fun h3=>?_) (fun h3=>?_)
       ·simp at h3
        simp [Gm.notLess,h3]
       ·simp at h3
        have e9 : decide (y.id ≥ x.id) = false:=by simp; exact h3
        rw [wrap_id (by omega) (by omega)]
        refine Again.mk (j + 1 + 1) [] ⟨h,?_⟩ (Zd h (Ze _)) ?_
        ·rw [e7]
         simp only [ZO,Gm.notLess,e9,Zk,Yy]
        ·simp only [mvcgen_simp,method_specs_simp,seval]
      ·simp at h2
       have hk0 : k = 0:=by omega
       subst hk0
       rw [wrap_id (by omega) (by omega)]
       refine Again.mk 1 [] ⟨h,?_⟩ (Zd h (Ze _)) ?_
       ·have e7 : pv xs 1 = some x:=hxk
        rw [e7]
        simp [Gm.notLess,pv]
       ·simp only [mvcgen_simp,method_specs_simp,seval]
   ·simp only [decide_eq_false_iff_not,Zb,Za] at h
    rw [Zm (by omega),Gm.rowFrom]
theorem c_l03Depths (evs : List Ev) (hx : EvsOK evs) (hin : ∀ e ∈ evs,Gm.allIn evs e = true) : Con P 156 [.sl 9 (evs.map encEv)] (.sl 1 ((Gm.depthsE evs).map encI)):=by
 have hx1:=hx.1
 refine Con.of (n:=69) (rs:=[.tmp 2]) (Is.fn Try.func156) rfl (Is.call Try.call156) Try.results156 Try.ntmps156 (by simp only [method_specs_simp]) ?_
 simp only [method_specs_simp,seval]
 refine ⟨by omega,by omega,by omega,?_⟩
 have ez : Zj evs.length [V.int IntKind.i64 0] = (Zj evs.length (0 : Int)).map encI:=by simp [encI]
 rw [ez]
 refine SW.while (A:=Nat) (fun k=>⟨pad 69 [.sl 9 (evs.map encEv),.junk,.nil,.ar 0 0 evs.length,.int .i64 k],[.arr true 1 ((Gm.iterD evs k (Zj evs.length 0)).map encI)],[]⟩)
  (fun k=>evs.length - k) (fun k=>k ≤ evs.length ∧ DepI evs (Gm.iterD evs k (Zj evs.length 0))) 0 [0] ⟨Zh _,⟨Gm.OkD.zero _,Gm.BdD.zero _⟩⟩ ?_ ?_
 ·rw [show Gm.iterD evs 0 (Zj evs.length 0) = Zj evs.length 0 from rfl]
  simp only [mvcgen_simp,method_specs_simp,seval]
 ·rintro k0 ⟨hk0,hd⟩
  refine CW.sound ?_
  have hsuc:=Gm.iter_succ evs k0 (Zj evs.length 0)
  generalize hDD : Gm.iterD evs k0 (Zj evs.length 0) = d at hd hsuc
  have hlen:=hd.ok.len
  have hk01 : IntKind.i64.wrap ((k0 : Int) + 1) = ((k0 + 1 : Nat) : Int):=by rw [wrap_id (by omega) (by omega)]; rfl
  simp only [method_specs_simp,seval]
  refine gB_split (fun h0=>?_) (fun h0=>?_)
  ·simp only [decide_eq_true_eq,Za] at h0
   refine SW.while (A:=Nat) (fun k=>⟨pad 69 [.sl 9 (evs.map encEv),.junk,.nil,.ar 0 0 evs.length,.int .i64 k0,.int .i64 k],[.arr true 1 ((Gm.passK evs d k).map encI)],[]⟩)
    (fun k=>evs.length - k) (fun k=>k ≤ evs.length) 0 [0] (Zh _) ?_ ?_
   ·rw [Gm.passK_zero]
    simp only [mvcgen_simp,method_specs_simp,seval]
   ·intro k hk
    have hdk : DepI evs (Gm.passK evs d k):=⟨Gm.passK_ok hd.ok k,Gm.passK_bd hd.ok hd.bd k⟩
    have hsucc:=Gm.passK_succ evs d k
    generalize hD : Gm.passK evs d k = D at hdk hsucc
    have hDl:=hdk.ok.len
    have hk1 : IntKind.i64.wrap ((k : Int) + 1) = ((k + 1 : Nat) : Int):=by rw [wrap_id (by omega) (by omega)]; rfl
    refine CW.sound ?_
    simp only [method_specs_simp,seval]
    refine gB_split (fun h=>?_) (fun h=>?_)
    ·simp only [decide_eq_true_eq,Za] at h
     have hxk : evs[k]? = some evs[k]:=Zc h
     have hOK:=hx.2 _ (Zn h)
     have hIn:=hin _ (Zn h)
     generalize evs[k] = e at hxk hOK hIn
     obtain ⟨x,hDk⟩ : ∃ x,D[k]? = some x:=⟨_,Zc (by omega)⟩
     have hDg : D.getD k 0 = x:=by rw [Zp,hDk]; rfl
     simp only [Zg,hxk,hDk,encEv,encI,method_specs_simp,seval,hk1]
     refine ⟨by omega,by omega,?_⟩
     have hx0 : 0 ≤ x:=hdk.ok.nn x (ZG hDk)
     refine gB_split (fun h1=>?_) (fun h1=>?_)
     ·simp only [decide_eq_true_eq] at h1
      have hst : Gm.stepD evs D k = D:=by unfold Gm.stepD; rw [hDg,if_pos h1]
      refine Again.mk (k + 1) [0] h (Zd h (Ze _)) ?_
      rw [hsucc,hst]
      simp only [mvcgen_simp,method_specs_simp,seval]
     ·simp only [decide_eq_false_iff_not,Zb] at h1
      have hxz : x = 0:=by omega
      subst hxz
      refine SW.while (A:=Nat × Int × Bool) (fun a=>⟨pad 69 [.sl 9 (evs.map encEv),.junk,.nil,.ar 0 0 evs.length,.int .i64 k0,.int .i64 k,.int .i64 a.2.1,.bool a.2.2,.int .i64 a.1],[.arr true 1 (D.map encI)],[]⟩)
       (fun a=>e.prev.length - a.1) (fun a=>a.1 ≤ e.prev.length ∧ 0 ≤ a.2.1 ∧ a.2.1 ≤ evs.length ∧ Gm.ownD evs D e = if (a.2.2 && (e.prev.drop a.1).all (fun p=>decide (Gm.dAt evs D p > 0))) = true then ((e.prev.drop a.1).map (Gm.dAt evs D)).foldl (fun a b=>if b > a then b else a) a.2.1 + 1 else 0) (0,0,true) [0]
       ⟨Zh _,Yh _,by simp only; omega,by simp only [Gm.ownD,List.drop_zero,Zk]⟩ ?_ ?_
      ·simp only [mvcgen_simp,method_specs_simp,seval]
      ·rintro ⟨j,most,ok⟩ ⟨hj,ho1,ho2,hown⟩
       simp only at hj ho1 ho2 hown
       have hel:=hOK.2
       refine CW.sound ?_
       simp only [Zg,hxk,encEv,method_specs_simp,seval]
       refine ⟨by omega,by omega,?_⟩
       refine gB_split (fun h3=>?_) (fun h3=>?_)
       ·simp only [decide_eq_true_eq,Za] at h3
        have hpj : e.prev[j]? = some e.prev[j]:=Zc h3
        have hpin : Gm.hasId evs e.prev[j] = true:=Ya.1 hIn _ (Zn h3)
        generalize e.prev[j] = q at hpj hpin
        have hDq:=dAt_fid hdk.ok hpin
        obtain ⟨hq0,hq1⟩:=hdk.le q
        have hpos:=Gm.fid_lt hpin
        have hj1 : IntKind.i64.wrap ((j : Int) + 1) = ((j + 1 : Nat) : Int):=by rw [wrap_id (by omega) (by omega)]; rfl
        rw [drop_cons hpj] at hown
        simp only [Zg,hxk,hpj,encEv,encI,method_specs_simp,seval]
        refine ⟨by omega,by omega,by omega,by omega,?_⟩
        have hat:=atI_yes hpin
        refine clY.con (c_l03At evs q (by omega)) (by simp only [method_specs_simp]) ?_
        simp only [hat,Zg,hxk,hDq,encEv,encI,method_specs_simp,seval,hj1]
        refine ⟨by omega,by omega,?_⟩
        have key : ∀ (ok' : Bool),ok' = (ok && decide (Gm.dAt evs D q > 0)) → Gm.ownD evs D e = if (ok' && (e.prev.drop (j + 1)).all (fun p=>decide (Gm.dAt evs D p > 0))) = true then ((e.prev.drop (j + 1)).map (Gm.dAt evs D)).foldl (fun a b=>if b > a then b else a) (if Gm.dAt evs D q > most then Gm.dAt evs D q else most) + 1 else 0:=by
         rintro ok' rfl
         rw [hown]
         simp only [List.all_cons,Yb,ZW,Bool.and_assoc]
        refine gB_split (fun h4=>?_) (fun h4=>?_)
        ·refine gB_split (fun h5=>?_) (fun h5=>?_)
         ·simp only [decide_eq_true_eq] at h5
          refine Again.mk (j + 1,Gm.dAt evs D q,decide (Gm.dAt evs D q > 0)) [0] ⟨h3,by simp only; omega,by simp only; omega,?_⟩ (Zd h3 (Ze _)) ?_
          ·have:=key (decide (Gm.dAt evs D q > 0)) (by rw [h4,Zk])
           rw [if_pos h5] at this
           exact this
          ·simp only [mvcgen_simp,method_specs_simp,seval]
         ·simp only [decide_eq_false_iff_not,Zb] at h5
          refine Again.mk (j + 1,most,decide (Gm.dAt evs D q > 0)) [0] ⟨h3,by simp only; omega,by simp only; omega,?_⟩ (Zd h3 (Ze _)) ?_
          ·have:=key (decide (Gm.dAt evs D q > 0)) (by rw [h4,Zk])
           rw [if_neg h5] at this
           exact this
          ·simp only [mvcgen_simp,method_specs_simp,seval]
        ·simp only [Zb] at h4
         refine gB_split (fun h5=>?_) (fun h5=>?_)
         ·simp only [decide_eq_true_eq] at h5
          refine Again.mk (j + 1,Gm.dAt evs D q,false) [0] ⟨h3,by simp only; omega,by simp only; omega,?_⟩ (Zd h3 (Ze _)) ?_
          ·have:=key false (by rw [h4,Zs])
           rw [if_pos h5] at this
           exact this
          ·simp only [mvcgen_simp,method_specs_simp,seval]
         ·simp only [decide_eq_false_iff_not,Zb] at h5
          refine Again.mk (j + 1,most,false) [0] ⟨h3,by simp only; omega,by simp only; omega,?_⟩ (Zd h3 (Ze _)) ?_
          ·have:=key false (by rw [h4,Zs])
           rw [if_neg h5] at this
           exact this
          ·simp only [mvcgen_simp,method_specs_simp,seval]
       ·simp only [decide_eq_false_iff_not,Zb,Za] at h3
        rw [Zm (by omega)] at hown
        simp only [Yk,Yc,List.foldl_nil,Zu] at hown
        refine gB_split (fun h4=>?_) (fun h4=>?_)
        ·rw [h4,if_pos rfl] at hown
         have w1 : IntKind.i64.wrap (most + 1) = most + 1:=wrap_id (by omega) (by omega)
         have hst : Gm.stepD evs D k = D.set k (most + 1):=by unfold Gm.stepD; rw [hDg,if_neg (by decide),hxk]; simp only; rw [hown,if_pos (by omega)]
         have eg : (D.map encI).getD k [] = encI 0:=by rw [Zp,map_getE _ hDk]; rfl
         have es : (D.map encI).set k (V.int IntKind.i64 (most + 1) :: ZY 1 ((D.map encI).getD k [])) = (D.set k (most + 1)).map encI:=by rw [eg,Yi]; rfl
         rw [w1]
         refine ⟨by omega,by omega,by omega,?_⟩
         rw [es]
         refine Again.mk (k + 1) [0] h (Zd h (Ze _)) ?_
         rw [hsucc,hst]
         simp only [mvcgen_simp,method_specs_simp,seval,hk1]
        ·simp only [Zb] at h4
         rw [h4,if_neg (by decide)] at hown
         have hst : Gm.stepD evs D k = D:=by unfold Gm.stepD; rw [hDg,if_neg (by decide),hxk]; simp only; rw [hown,if_neg (by decide)]
         refine Again.mk (k + 1) [0] h (Zd h (Ze _)) ?_
         rw [hsucc,hst]
         simp only [mvcgen_simp,method_specs_simp,seval,hk1]
    ·simp only [decide_eq_false_iff_not,Zb,Za] at h
     have hkn : k = evs.length:=by omega
     subst hkn
     have hpD : Gm.passD evs d = D:=hD
     rw [hk01]
     refine Again.mk (k0 + 1) [0] ⟨h0,?_⟩ (Zd h0 (Ze _)) ?_
     ·rw [hsuc,hpD]; exact hdk
     ·rw [hsuc,hpD]
      simp only [mvcgen_simp,method_specs_simp,seval]
  ·simp only [decide_eq_false_iff_not,Zb,Za] at h0
   have hkn : k0 = evs.length:=by omega
   subst hkn
   have ht : Zt evs.length (ZT encI d) = ZT encI d:=ZD (by simp [hlen])
   rw [ht,← hDD]
   exact ⟨of_eq_true (encI_refs _ _),rfl⟩
theorem c_sGraphRight (g : Gr) (hg : GrOK g) : Con P 106 [.agg (encGr g)] (.bool (Gm.grRight g)):=by
 have hg1:=hg.1.1
 have hg2:=hg.2.1
 refine Con.of (n:=84) (rs:=[.tmp 2]) (Is.fn Try.func106) rfl (Is.call Try.call106) Try.results106 Try.ntmps106 trivial ?_
 simp only [method_specs_simp,seval,encGr]
 refine clY.con (c_l02Is g.room 1 3) (by simp only [method_specs_simp,encGr]) ?_
 simp only [method_specs_simp,seval,encGr]
 cases g1 : Gm.isB g.room 1 3
 ·simp only [method_specs_simp,seval,encGr]
  simp [Gm.grRight,g1]
 simp only [method_specs_simp,seval,encGr]
 refine clY.con (c_l03Row g.events g.room 60 hg.1) (by simp only [method_specs_simp,encGr]) ?_
 simp only [method_specs_simp,seval,encGr]
 cases g2 : Gm.rowR g.events g.room 60
 ·simp only [method_specs_simp,seval,encGr]
  simp [Gm.grRight,g2]
 simp only [method_specs_simp,seval,encGr]
 refine clY.con (c_l03Row g.parked g.room 20 hg.2) (by simp only [method_specs_simp,encGr]) ?_
 simp only [method_specs_simp,seval,encGr]
 cases g3 : Gm.rowR g.parked g.room 20
 ·simp only [method_specs_simp,seval,encGr]
  simp [Gm.grRight,g3]
 simp only [method_specs_simp,seval,encGr]
 simp only [Gm.grRight,g1,g2,g3,Zk]
 refine SW.while (A:=Nat) (fun k=>⟨pad 84 [.junk,.ptr 0 0,.bool false,.int .i64 k],[.box true (encGr g)],[]⟩) (fun k=>g.events.length - k)
  (fun k=>k ≤ g.events.length ∧ (g.events.all fun e=>Gm.allIn g.events e && !Gm.hasId g.parked e.id) = ((g.events.drop k).all fun e=>Gm.allIn g.events e && !Gm.hasId g.parked e.id) ∧ ∀ i e,i < k → g.events[i]? = some e → Gm.allIn g.events e = true) 0 [0] ⟨Zh _,rfl,fun i e h=>absurd h (Nat.not_lt_zero _)⟩ ?_ ?_
 ·simp only [mvcgen_simp,method_specs_simp,seval,encGr]
 ·rintro k ⟨hk,hr,hall⟩
  rw [hr]
  refine CW.sound ?_
  simp only [method_specs_simp,seval,encGr]
  refine gB_split (fun h=>?_) (fun h=>?_)
  ·simp only [decide_eq_true_eq,Za] at h
   have hxk : g.events[k]? = some g.events[k]:=Zc h
   have hOK:=hg.1.2 _ (Zn h)
   generalize g.events[k] = x at hxk hOK
   rw [drop_cons hxk]
   simp only [Zg,hxk,encEv,encGr,method_specs_simp,seval]
   refine ⟨by kernel_rfl,by omega,by omega,?_⟩
   refine clY.con (c_l03All g.events x hOK (by omega)) (by simp only [method_specs_simp]) ?_
   simp only [Zg,hxk,encEv,encGr,method_specs_simp,seval]
   cases g4 : Gm.allIn g.events x
   ·simp only [method_specs_simp,seval,encGr]
    simp [g4]
   simp only [Zg,hxk,encEv,encGr,method_specs_simp,seval]
   refine ⟨by omega,by omega,?_⟩
   refine clY.con (c_l03At g.parked x.id (by omega)) (by simp only [method_specs_simp]) ?_
   simp only [encEv,encGr,method_specs_simp,seval]
   rw [atI_ge]
   cases g5 : Gm.hasId g.parked x.id
   ·simp only [method_specs_simp,seval,encGr]
    rw [wrap_id (by omega) (by omega)]
    refine Again.mk (k + 1) [0] ⟨h,by simp [g4,g5],?_⟩ (Zd h (Ze _)) ?_
    ·intro i e hi he
     rcases Nat.lt_or_ge i k with h1 | h1
     ·exact hall i e h1 he
     ·have : i = k:=by omega
      subst this
      rw [hxk] at he; cases he; exact g4
    ·simp only [mvcgen_simp,method_specs_simp,seval,encGr]
   ·simp only [method_specs_simp,seval,encGr]
    simp [g4,g5]
  ·simp only [decide_eq_false_iff_not,Zb,Za] at h
   rw [Zm (by omega),Yk,Zk]
   have hin : ∀ e ∈ g.events,Gm.allIn g.events e = true:=fun e he=>by
    obtain ⟨i,hi⟩:=Yr he
    have:=(Zy.1 hi).1
    exact hall i e (by omega) hi
   refine SW.while (A:=Nat) (fun k=>⟨pad 84 [.junk,.ptr 0 0,.bool false,.junk,.int .i64 k],[.box true (encGr g)],[]⟩) (fun k=>g.parked.length - k)
    (fun k=>k ≤ g.parked.length ∧ (g.parked.all fun e=>!Gm.allIn g.events e) = ((g.parked.drop k).all fun e=>!Gm.allIn g.events e)) 0 [0] ⟨Zh _,rfl⟩ ?_ ?_
   ·simp only [mvcgen_simp,method_specs_simp,seval,encGr]
   ·rintro k ⟨hk,hr⟩
    rw [hr]
    refine CW.sound ?_
    simp only [method_specs_simp,seval,encGr]
    refine gB_split (fun h=>?_) (fun h=>?_)
    ·simp only [decide_eq_true_eq,Za] at h
     have hxk : g.parked[k]? = some g.parked[k]:=Zc h
     have hOK:=hg.2.2 _ (Zn h)
     generalize g.parked[k] = x at hxk hOK
     rw [drop_cons hxk]
     simp only [Zg,hxk,encEv,encGr,method_specs_simp,seval]
     refine ⟨by kernel_rfl,by omega,by omega,?_⟩
     refine clY.con (c_l03All g.events x hOK (by omega)) (by simp only [method_specs_simp]) ?_
     simp only [method_specs_simp,seval,encGr]
     cases g4 : Gm.allIn g.events x
     ·simp only [method_specs_simp,seval,encGr]
      rw [wrap_id (by omega) (by omega)]
      refine Again.mk (k + 1) [0] ⟨h,by simp [g4]⟩ (Zd h (Ze _)) ?_
      simp only [mvcgen_simp,method_specs_simp,seval,encGr]
     ·simp only [method_specs_simp,seval,encGr]
      simp [g4]
    ·simp only [decide_eq_false_iff_not,Zb,Za] at h
     rw [Zm (by omega),Yk,Zk]
     refine clY.con (c_l03Depths g.events hg.1 hin) (by simp only [method_specs_simp,encGr]) ?_
     simp only [method_specs_simp,seval,encGr]
     have hdl:=(Gm.depths_ok g.events).len
     generalize Gm.depthsE g.events = d at hdl
     refine SW.while (A:=Nat) (fun k=>⟨pad 84 [.junk,.ptr 0 0,.bool false,.junk,.junk,.sl 1 (d.map encI),.int .i64 k],[.box true (encGr g)],[]⟩) (fun k=>d.length - k)
      (fun k=>k ≤ d.length ∧ Gm.allPos d = Gm.allPos (d.drop k)) 0 [0] ⟨Zh _,rfl⟩ ?_ ?_
     ·simp only [mvcgen_simp,method_specs_simp,seval,encGr]
     ·rintro k ⟨hk,hr⟩
      rw [hr]
      refine CW.sound ?_
      simp only [method_specs_simp,seval,encGr]
      refine gB_split (fun h=>?_) (fun h=>?_)
      ·simp only [decide_eq_true_eq,Za] at h
       obtain ⟨x,hxk⟩ : ∃ x,d[k]? = some x:=⟨_,Zc h⟩
       rw [drop_cons hxk]
       simp only [Zg,hxk,encI,encGr,method_specs_simp,seval]
       refine ⟨by omega,by omega,?_⟩
       cases g4 : (x == 0)
       ·simp only [method_specs_simp,seval,encGr]
        rw [wrap_id (by omega) (by omega)]
        refine Again.mk (k + 1) [0] ⟨h,by simp [Gm.allPos,g4]⟩ (Zd h (Ze _)) ?_
        simp only [mvcgen_simp,method_specs_simp,seval,encGr]
       ·simp only [method_specs_simp,seval,encGr]
        simp [Gm.allPos,g4]
      ·simp only [decide_eq_false_iff_not,Zb,Za] at h
       rw [Zm (by omega)]
       rfl
end
theorem VLe.tup {xs ys : List V} (h : VLes xs ys) : VLe (.tup xs) (.tup ys):=fun c v ⟨us,e,k⟩=>⟨us,e,h c _ k⟩
theorem Con.res {P : Program} {f : FuncId} {args : List V} {r r' : V} (h : Con P f args r) (hl : VLe r r') (hp : Ref (fun _=>False) r') : Con P f args r':=by
 refine ⟨h.ok,hp,fun w Zo us hz hu=>(h.c w Zo us hz hu).mono ?_⟩
 rintro e w' ⟨v,β,he,hG,hM,hr,hl'⟩
 exact ⟨v,β,he,hG,hM,hl _ _ hr,hl'⟩
def zE : Ev:=⟨0,0,0,0,0,0,ByteArray.empty,[],0⟩
theorem zEv_le : VLes zEv (encEv zE):=.same (.same (.same (.same (.same (.same (.same (.cons (.nil 1) (.same .nil))))))))
def atE (l : List Ev) (id : Int) : Option Ev:=l.find? fun e=>e.id == id
theorem atE_has (l : List Ev) (id : Int) : (atE l id).isSome = Gm.hasId l id:=by
 unfold atE Gm.hasId
 rw [ZM,List.find?_isSome,List.any_eq_true]
theorem atE_none {l : List Ev} {id : Int} (h : Gm.hasId l id = false) : atE l id = none:=by
 have:=atE_has l id
 rw [h] at this
 cases hh : atE l id with
 | none=>rfl
 | some x=>rw [hh] at this; cases this
theorem fid_at : ∀ {l : List Ev} {id : Int},Gm.hasId l id = true → l[Gm.fidE l id]? = atE l id
 | [],id,h=>by simp [Gm.hasId] at h
 | e :: l,id,h=>by
   unfold Gm.fidE atE
   rw [ZQ,List.find?_cons]
   cases he : e.id == id with
   | true=>rfl
   | false =>
    have h2 : Gm.hasId l id = true:=by simpa [Gm.hasId,he] using h
    simpa [Gm.fidE,atE] using fid_at h2
theorem at_pos {l : List Ev} (hs : Gm.Srt l) {id : Int} (h : Gm.hasId l id = true) : ∃ e,l[Gm.posE l id]? = some e ∧ atE l id = some e ∧ e.id = id ∧ e ∈ l:=by
 have h1:=fid_at h
 obtain ⟨e,h2,h3⟩:=Gm.fid_get h
 rw [Gm.fid_pos hs h] at h1 h2
 exact ⟨e,h2,by rw [← h1]; exact h2,h3,ZG h2⟩
def isK (kind key : Int) (x : Ent) : Bool:=(x.kind == kind) && (x.key == key)
def idS (s : List Ent) (kind key : Int) : Int:=match s.find? (isK kind key) with
 | some x=>x.id
 | none=>0
def curE (g : Gr) (s : List Ent) (kind key : Int) : Option Ev:=atE g.events (idS s kind key)
def memberE (g : Gr) (s : List Ent) (u : Int) : Int:=((curE g s 2 u).getD zE).n
def levelE (g : Gr) (s : List Ent) (u : Int) : Int:=if (curE g s 3 u).isSome then ((curE g s 3 u).getD zE).n else if ((curE g s 1 0).isSome && (((curE g s 1 0).getD zE).author == u)) then 100 else 0
structure GS (g : Gr) (s : List Ent) : Prop where
 hx : g.events.length * 96 ≤ 2 ^ 47
 hs : Gm.Srt g.events
 sx : s.length * 24 ≤ 2 ^ 47
 ss : s.Pairwise ltE
section
variable {P : Program} [Is P]
theorem c_at (g : Gr) (id : Int) (hx : g.events.length * 96 ≤ 2 ^ 47) (hs : Gm.Srt g.events) : Con P 170 [.agg (encGr g),.int .i64 id] (.tup [.agg (encEv ((atE g.events id).getD zE)),.bool (atE g.events id).isSome]):=by
 rw [atE_has]
 cases hh : Gm.hasId g.events id with
 | true =>
  obtain ⟨e,h1,h2,_,_⟩:=at_pos hs hh
  have hp : Gm.posE g.events id < g.events.length:=(Zy.1 h1).1
  rw [h2]
  refine Con.of (n:=23) (rs:=[.cell 4 79,.tmp 5]) (Is.fn Try.func170) rfl (Is.call Try.call170) Try.results170 Try.ntmps170 (by simp only [method_specs_simp]) ?_
  simp only [method_specs_simp,seval,encGr]
  refine clY.con (c_find g.events id hx hs) (by simp only [method_specs_simp,encGr]) ?_
  simp only [method_specs_simp,seval,encGr,hh]
  refine ⟨by omega,by omega,?_⟩
  simp only [h1,encEv,encGr,method_specs_simp,seval]
  rfl
 | false =>
  rw [atE_none hh]
  refine Con.res (r:=.tup [.agg zEv,.bool false]) ?_ (VLe.tup (.cons (.agg zEv_le) (.same .nil))) ⟨encEv_ref1 _ _,trivial,trivial⟩
  refine Con.of (n:=23) (rs:=[.cell 4 79,.tmp 5]) (Is.fn Try.func170) rfl (Is.call Try.call170) Try.results170 Try.ntmps170 (by simp only [zEv,method_specs_simp]) ?_
  simp only [method_specs_simp,seval,encGr]
  refine clY.con (c_find g.events id hx hs) (by simp only [method_specs_simp,encGr]) ?_
  simp only [method_specs_simp,seval,encGr,hh]
  rfl
def den (b : Bool) : Int:=if b then 11 else 0
def selfE (g : Gr) (s : List Ent) (e : Ev) (m : Int) : Int :=
 if (e.n == 1) = true then den ((m == 3) || (!((m == 1) || (m == 4)) && (!(((curE g s 5 0).getD zE).n == 1) && !(((curE g s 1 0).getD zE).author == e.author)))) else if (e.n == 2) = true then den (!((m == 1) || (m == 4))) else 11
def weakE (p q : Int) : Bool:=decide (p < 50) || decide (p ≤ q)
def otherE (g : Gr) (s : List Ent) (e : Ev) (p : Int) : Int :=
 if (e.n == 4) = true then den ((memberE g s e.key == 1) || (memberE g s e.key == 3))
 else if (e.n == 2) = true then den ((weakE p (levelE g s e.key) || (memberE g s e.key == 0)) || (memberE g s e.key == 2))
 else if (e.n == 3) = true then den (weakE p (levelE g s e.key) || (memberE g s e.key == 3))
 else 11
def powerE (g : Gr) (s : List Ent) (e : Ev) (p : Int) : Bool:=(decide (p < 50) || decide (e.n > p)) || (!(e.key == e.author) && decide (levelE g s e.key ≥ p))
def allowedE (g : Gr) (s : List Ent) (e : Ev) : Int :=
 if (e.kind == 1) = true then (if (curE g s 1 0).isSome = true then 7 else 0)
 else if (curE g s 1 0).isSome = false then 10
 else if ((e.kind == 2) && (e.key == e.author)) = true then selfE g s e (memberE g s e.author)
 else if (memberE g s e.author == 1) = false then 11
 else if (e.kind == 2) = true then otherE g s e (levelE g s e.author)
 else if (e.kind == 3) = true then den (powerE g s e (levelE g s e.author))
 else if ((e.kind == 4) || ((e.kind == 5) || (e.kind == 6))) = true then den (decide (levelE g s e.author < 50))
 else if (e.kind == 8) = true then (if (atE g.events e.key).isSome = true then den (decide (levelE g s e.author < 50) && !(((atE g.events e.key).getD zE).author == e.author)) else 6)
 else 0
end
def entOf (g : Gr) (x : Ent) : Bool:=(atE g.events x.id).isSome && ((((atE g.events x.id).getD zE).kind == x.kind) && (((atE g.events x.id).getD zE).key == x.key))
def stateOk (s : List Ent) : Bool:=okRow (entI 1) s && decide (s.length ≤ 400)
def stateE (g : Gr) (s : List Ent) : Bool:=stateOk s && s.all (entOf g)
section
variable {P : Program} [Is P]
def allowedG (g : Gr) (s : List Ent) (e : Ev) : Int:=if (Gm.grRight g && (Gm.evRight e && stateE g s)) = true then allowedE g s e else 1
end
structure LS (g : Gr) (s : List Ent) : Prop extends GS g s where
 hz : ∀ k q,(idS s k q = 0 ∧ curE g s k q = none) ∨ (0 < idS s k q ∧ Gm.hasId g.events (idS s k q) = true)
end Go.Proofs.Ytnlobbbbgcdiiaa
end
section
namespace Go.Proofs.Ytnlobbbbgcdiiaa
open Go.Pm
open Go.ChangeShapes Go.WideShapes Go.ChangeAt Go.RowKit
set_option maxRecDepth 100000
def tEnt : Ty:=.st [.int .i64,.int .i64,.int .i64]
def tEnts : Ty:=.sl 3 24 tEnt
end Go.Proofs.Ytnlobbbbgcdiiaa
end
section
namespace Go.Proofs.Ytnlobbbbgcdiiaa
open Go.Pm
open Go.Gm (Ev Gr)
open Go.ChangeShapes Go.WideShapes Go.ChangeAt Go.RowKit
set_option maxRecDepth 100000
def tInts : Ty:=.sl 1 8 (.int .i64)
def tEvent : Ty:=.st [.int .i64,.int .i64,.int .i64,.int .i64,.int .i64,.int .i64,.str,tInts,.int .i64]
def tEvents : Ty:=.sl 9 96 tEvent
def tGraph : Ty:=.st [.int .i64,tEvents,tEvents]
theorem list_map_ofG {α β : Type} {p : α → β → Prop} {q : β → Prop} {f : β → α} (hf : ∀ a b,p a b → a = f b ∧ q b) : ∀ {l : List α},(∀ a ∈ l,∃ b,p a b) → ∃ m : List β,l = m.map f ∧ ∀ b ∈ m,q b
 | [],_=>⟨[],rfl,fun _ h=>by cases h⟩
 | a :: l,h=>by
   obtain ⟨b,hb⟩:=h a ZN
   obtain ⟨m,hm,hq⟩:=list_map_ofG hf fun x hx=>h x (ZX _ hx)
   refine ⟨b :: m,by rw [hm,(hf a b hb).1]; rfl,fun x hx=>?_⟩
   rcases Zz.1 hx with rfl | hx
   ·exact (hf a _ hb).2
   ·exact hq x hx
theorem in_ints {xs : List V} (h : In tInts xs) : ∃ l : List Int,xs = [.sl 1 (l.map encI)] ∧ l.length * 8 ≤ reachBytes:=by
 obtain ⟨rows,rfl,hl,hr⟩:=h
 obtain ⟨l,rfl,_⟩:=list_map_ofG (p:=fun a b=>a = encI b) (q:=fun _=>True) (fun _ _ h=>⟨h,trivial⟩) fun r hr'=>by
  obtain ⟨n,h,_⟩:=hr r hr'
  exact ⟨n,h⟩
 exact ⟨l,rfl,by simpa using hl⟩
theorem in_event {xs : List V} (h : In tEvent xs) : ∃ e : Ev,xs = encEv e ∧ EvOK e:=by
 obtain ⟨_,_,rfl,⟨a,rfl,_⟩,_,_,rfl,⟨b,rfl,_⟩,_,_,rfl,⟨c,rfl,_⟩,_,_,rfl,⟨d,rfl,_⟩,_,_,rfl,⟨e,rfl,_⟩,_,_,rfl,⟨f,rfl,_⟩,_,_,rfl,⟨s,rfl,hs⟩,_,_,rfl,hp,_,_,rfl,⟨t,rfl,_⟩,rfl⟩:=h
 obtain ⟨l,rfl,hl⟩:=in_ints hp
 have h0:=reachBytes_lt
 exact ⟨⟨a,b,c,d,e,f,s,l,t⟩,rfl,by show s.size < _; omega,by show l.length < _; omega⟩
theorem in_events {xs : List V} (h : In tEvents xs) : ∃ l : List Ev,xs = [.sl 9 (l.map encEv)] ∧ EvsOK l:=by
 obtain ⟨rows,rfl,hl,hr⟩:=h
 obtain ⟨l,rfl,hq⟩:=list_map_ofG (p:=fun a b=>a = encEv b ∧ EvOK b) (q:=EvOK) (fun _ _ h=>h) fun r hr'=>in_event (hr r hr')
 have h0:=reachBytes_lt
 exact ⟨l,rfl,by simp only [Yd] at hl; omega,hq⟩
theorem in_graph {xs : List V} (h : In tGraph xs) : ∃ g : Gr,xs = encGr g ∧ GrOK g:=by
 obtain ⟨_,_,rfl,⟨a,rfl,_⟩,_,_,rfl,hb,_,_,rfl,hc,rfl⟩:=h
 obtain ⟨b,rfl,hb2⟩:=in_events hb
 obtain ⟨c,rfl,hc2⟩:=in_events hc
 exact ⟨⟨a,b,c⟩,rfl,hb2,hc2⟩
theorem ok_ints : OKT Try.prog tInts 48:=by
 refine ⟨_,Try.underlying48,Try.underlying2,?_,?_,?_⟩
 all_goals first | kernel_rfl | decide | (show (_ : Nat) = _; kernel_rfl)
theorem ok_event : OKT Try.prog tEvent 74:=by
 refine ⟨_,Try.underlying74,rfl,Try.underlying2,rfl,Try.underlying2,rfl,Try.underlying2,rfl,Try.underlying2,rfl,Try.underlying2,rfl,Try.underlying2,rfl,Try.underlying9,rfl,ok_ints,rfl,Try.underlying2,?_⟩
 all_goals first | kernel_rfl | decide | (show (_ : Nat) = _; kernel_rfl)
theorem ok_events : OKT Try.prog tEvents 62:=by
 refine ⟨_,Try.underlying62,ok_event,?_,?_,?_⟩
 all_goals first | kernel_rfl | decide | (show (_ : Nat) = _; kernel_rfl)
theorem ok_graph : OKT Try.prog tGraph 64:=by
 refine ⟨_,Try.underlying64,rfl,Try.underlying2,rfl,ok_events,rfl,ok_events,?_⟩
 all_goals first | kernel_rfl | decide | (show (_ : Nat) = _; kernel_rfl)
end Go.Proofs.Ytnlobbbbgcdiiaa
end
section
section
namespace Go.Gm
def ltD (d : Int → Int) (x y : Int) : Bool:=decide (d x < d y) || (decide (d x = d y) && decide (x < y))
def LtD (d : Int → Int) (x y : Int) : Prop:=ltD d x y = true
theorem ltD_iff {d : Int → Int} {x y : Int} : LtD d x y ↔ d x < d y ∨ (d x = d y ∧ x < y):=by simp [LtD,ltD]
theorem ltD_str (d : Int → Int) : Str (LtD d):=⟨fun x h=>by rw [ltD_iff] at h; omega,fun x y z h1 h2=>by rw [ltD_iff] at *; omega⟩
theorem ltD_tot {d : Int → Int} {x y : Int} (h : x ≠ y) (hn : ¬ LtD d x y) : LtD d y x:=by rw [ltD_iff] at *; omega
def insD (d : Int → Int) (x : Int) : List Int → List Int
 | []=>[x]
 | y :: l=>if ltD d x y = true then x :: y :: l else y :: insD d x l
def srtD (d : Int → Int) : List Int → List Int
 | []=>[]
 | x :: l=>insD d x (srtD d l)
theorem insD_perm (d : Int → Int) (x : Int) : ∀ l,(insD d x l).Perm (x :: l)
 | []=>List.Perm.refl _
 | y :: l=>by
   unfold insD
   split
   ·exact List.Perm.refl _
   ·exact ((insD_perm d x l).cons y).trans (List.Perm.swap x y l)
theorem srtD_perm (d : Int → Int) : ∀ l,(srtD d l).Perm l
 | []=>List.Perm.refl _
 | x :: l=>(insD_perm d x _).trans ((srtD_perm d l).cons x)
theorem insD_sorted {d : Int → Int} {x : Int} : ∀ {l : List Int},l.Pairwise (LtD d) → x ∉ l → (insD d x l).Pairwise (LtD d)
 | [],_,_=>YA _ _
 | y :: l,h,hx=>by
   have h1:=ZI.1 h
   unfold insD
   split
   ·rename_i hlt
    refine ZI.2 ⟨fun z hz=>?_,h⟩
    rcases Zz.1 hz with rfl | hz
    ·exact hlt
    ·exact (ltD_str d).tr _ _ _ hlt (h1.1 z hz)
   ·rename_i hlt
    refine ZI.2 ⟨fun z hz=>?_,insD_sorted h1.2 fun hm=>hx (ZX _ hm)⟩
    rcases Zz.1 ((insD_perm d x l).subset hz) with rfl | hz
    ·exact ltD_tot (fun e=>hx (e ▸ ZN)) hlt
    ·exact h1.1 z hz
def StD (d : Int → Int) (l : List Int) : Prop:=l.Pairwise fun x y=>d x = d y → x < y
theorem StD.nodup {d : Int → Int} {l : List Int} (h : StD d l) : l.Nodup:=List.Pairwise.imp (fun {x y} h e=>by subst e; exact absurd (h rfl) (by omega)) h
theorem srtD_sorted {d : Int → Int} : ∀ {l : List Int},l.Nodup → (srtD d l).Pairwise (LtD d)
 | [],_=>List.Pairwise.nil
 | x :: l,h=>by
   have h1:=YB.1 h
   exact insD_sorted (srtD_sorted h1.2) fun hm=>h1.1 ((srtD_perm d l).subset hm)
theorem srtD_of {d : Int → Int} {l l' : List Int} (hp : l'.Perm l) (hs : l'.Pairwise (LtD d)) : l' = srtD d l:=by
 have hn : l'.Nodup:=List.Pairwise.imp (fun {x y} h e=>by subst e; exact (ltD_str d).irr _ h) hs
 exact sorted_one (ltD_str d) (hp.trans (srtD_perm d l).symm) hs (srtD_sorted (hp.nodup hn))
theorem srtD_same {d : Int → Int} {l l' : List Int} (h : l.Nodup) (hp : l'.Perm l) : srtD d l' = srtD d l:=srtD_of ((srtD_perm d l').trans hp) (srtD_sorted (hp.symm.nodup h))
theorem srtD_id {d : Int → Int} {l : List Int} (hs : l.Pairwise (LtD d)) : srtD d l = l:=(srtD_of (List.Perm.refl _) hs).symm
theorem srtD_len (d : Int → Int) (l : List Int) : (srtD d l).length = l.length:=(srtD_perm d l).length_eq
theorem behind {d : Int → Int} {x y : Int} (h : d x = d y → x < y) : decide (d y < d x) = ltD d y x:=by
 unfold ltD
 by_cases h1 : d y < d x
 ·simp [h1]
 ·by_cases h2 : d y = d x
  ·have:=h h2.symm
   simp [h1,h2]; omega
  ·simp [h1,h2]
theorem get_mid {α : Type} (P : List α) (x : α) (Q : List α) : (P ++ x :: Q)[P.length]? = some x:=by simp
theorem get_mid2 {α : Type} (P Q R : List α) (x y : α) : (P ++ x :: (Q ++ y :: R))[P.length + 1 + Q.length]? = some y:=by
 rw [ZA (by omega),show P.length + 1 + Q.length - P.length = Q.length + 1 by omega,List.getElem?_cons_succ]
 simp
theorem set_mid {α : Type} (P : List α) (x z : α) (Q : List α) : (P ++ x :: Q).set P.length z = P ++ z :: Q:=by simp
theorem set_mid2 {α : Type} (P Q R : List α) (x y z : α) : (P ++ x :: (Q ++ y :: R)).set (P.length + 1 + Q.length) z = P ++ x :: (Q ++ z :: R):=by
 rw [Yx _ _ (by omega),show P.length + 1 + Q.length - P.length = Q.length + 1 by omega,YL,set_mid]
theorem swp {α : Type} (P Q R : List α) (x y : α) : ((P ++ x :: (Q ++ y :: R)).set P.length y).set (P.length + 1 + Q.length) x = P ++ y :: (Q ++ x :: R):=by rw [set_mid,set_mid2]
theorem swp' {α : Type} (P Q R : List α) (x y : α) : ((P ++ x :: (Q ++ y :: R)).set (P.length + 1 + Q.length) x).set P.length y = P ++ y :: (Q ++ x :: R):=by rw [set_mid2,set_mid]
theorem pw_get {α : Type} {T : α → α → Prop} {l : List α} (h : l.Pairwise T) {i j : Nat} {x y : α} (hij : i < j) (hx : l[i]? = some x) (hy : l[j]? = some y) : T x y:=by
 obtain ⟨hi,rfl⟩:=Zy.1 hx
 obtain ⟨hj,rfl⟩:=Zy.1 hy
 exact YK.1 h i j hi hj hij
theorem mem_take_get {α : Type} {l : List α} {s : Nat} {x : α} (h : x ∈ l.take s) : ∃ i,i < s ∧ l[i]? = some x:=by
 obtain ⟨i,hi⟩:=YS.1 h
 rw [YO] at hi
 split at hi
 ·exact ⟨i,by assumption,hi⟩
 ·cases hi
theorem mem_drop_get {α : Type} {l : List α} {s : Nat} {x : α} (h : x ∈ l.drop s) : ∃ i,s ≤ i ∧ l[i]? = some x:=by
 obtain ⟨i,hi⟩:=YS.1 h
 rw [List.getElem?_drop] at hi
 exact ⟨s + i,by omega,hi⟩
theorem cut_fits {d : Int → Int} {L R : List Int} (hL : L.Pairwise (LtD d)) (hR : R.Pairwise (LtD d)) {s t : Nat}
  (h : s = 0 ∨ t = R.length ∨ ∃ x y,L[s - 1]? = some x ∧ R[t]? = some y ∧ LtD d x y) : ∀ x ∈ L.take s,∀ y ∈ R.drop t,LtD d x y:=by
 intro x hx y hy
 replace hx:=mem_take_get hx
 replace hy:=mem_drop_get hy
 obtain ⟨i,hi,hx⟩:=hx
 obtain ⟨j,hj,hy⟩:=hy
 rcases h with rfl | rfl | ⟨x0,y0,h1,h2,h3⟩
 ·omega
 ·obtain ⟨hlt,_⟩:=Zy.1 hy
  omega
 ·have a1 : x = x0 ∨ LtD d x x0:=by
   by_cases e : i = s - 1
   ·left; rw [e,h1] at hx; injection hx with hx; exact hx.symm
   ·right; exact pw_get hL (by omega) hx h1
  have a2 : y0 = y ∨ LtD d y0 y:=by
   by_cases e : t = j
   ·left; rw [← e,h2] at hy; injection hy with hy
   ·right; exact pw_get hR (by omega) h2 hy
  have h4 : LtD d x y0:=a1.elim (fun e=>e ▸ h3) fun a1=>(ltD_str d).tr _ _ _ a1 h3
  rcases a2 with rfl | a2
  ·exact h4
  ·exact (ltD_str d).tr _ _ _ h4 a2
theorem cut_one {d : Int → Int} {R : List Int} (hR : R.Pairwise (LtD d)) {x : Int} {t : Nat} (h1 : t = 0 ∨ ∃ y,R[t - 1]? = some y ∧ LtD d y x) (h2 : t = R.length ∨ ∃ y,R[t]? = some y ∧ LtD d x y) :
  (R.take t ++ x :: R.drop t).Pairwise (LtD d) ∧ (R.take t ++ x :: R.drop t).Perm (x :: R):=by
 constructor
 ·have hc:=hR
  rw [← ZE t R] at hc
  have hc:=Zv.1 hc
  have a1 : ∀ y ∈ R.take t,LtD d y x:=fun y hy=>cut_fits (L:=R) (R:=[x]) hR (YA _ _) (s:=t) (t:=0)
   (h1.elim .inl fun ⟨y,h1,h3⟩=>.inr (.inr ⟨y,x,h1,rfl,h3⟩)) y hy x (by simp)
  have a2 : ∀ y ∈ R.drop t,LtD d x y:=fun y hy=>cut_fits (L:=[x]) (R:=R) (YA _ _) hR (s:=1) (t:=t)
   (h2.elim (fun h2=>.inr (.inl h2)) fun ⟨y,h2,h3⟩=>.inr (.inr ⟨x,y,rfl,h2,h3⟩)) x (by simp) y hy
  refine Zv.2 ⟨hc.1,ZI.2 ⟨a2,hc.2.1⟩,fun y hy z hz=>?_⟩
  rcases Zz.1 hz with rfl | hz
  ·exact a1 y hy
  ·exact hc.2.2 y hy z hz
 ·have : (R.take t ++ x :: R.drop t).Perm (x :: (R.take t ++ R.drop t)):=List.perm_middle
  rwa [ZE] at this
theorem merged {d : Int → Int} {L R : List Int} (hL : L.Pairwise (LtD d)) (hR : R.Pairwise (LtD d)) {s t : Nat} (hs : StD d (L ++ R))
  (h1 : s = 0 ∨ t = R.length ∨ ∃ x y,L[s - 1]? = some x ∧ R[t]? = some y ∧ LtD d x y) (h2 : s = L.length ∨ t = 0 ∨ ∃ x y,L[s]? = some x ∧ R[t - 1]? = some y ∧ LtD d y x) :
  srtD d (L.take s ++ R.take t) ++ srtD d (L.drop s ++ R.drop t) = srtD d (L ++ R):=by
 have c1:=cut_fits hL hR h1
 have c2:=cut_fits (L:=R) (R:=L) hR hL (s:=t) (t:=s) (h2.elim (fun h2=>.inr (.inl h2)) fun h2=>h2.elim .inl fun ⟨x,y,e1,e2,e3⟩=>.inr (.inr ⟨y,x,e2,e1,e3⟩))
 have eL : L.take s ++ L.drop s = L:=ZE s L
 have eR : R.take t ++ R.drop t = R:=ZE t R
 have hn:=hs.nodup
 have sub1 : (L.take s ++ R.take t).Nodup:=(List.Sublist.append (ZB s L) (ZB t R)).nodup hn
 have sub2 : (L.drop s ++ R.drop t).Nodup:=(List.Sublist.append (ZC s L) (ZC t R)).nodup hn
 have hh:=halves (ltD_str d) (L1:=L.take s) (L2:=L.drop s) (R1:=R.take t) (R2:=R.drop t) (by rw [eL]; exact hL) (by rw [eR]; exact hR) c1 c2 (srtD_perm d _) (srtD_perm d _) (srtD_sorted sub1) (srtD_sorted sub2)
 rw [eL,eR] at hh
 exact srtD_of hh.2 hh.1
theorem StD.sub {d : Int → Int} {l l' : List Int} (h : StD d l) (hs : l'.Sublist l) : StD d l':=List.Pairwise.sublist hs h
theorem two_get {α : Type} {z P Q R : List α} {x y : α} {i j : Nat} (h : z = P ++ x :: (Q ++ y :: R)) (hi : i = P.length) (hj : j = P.length + 1 + Q.length) :
  z[i]? = some x ∧ z[j]? = some y ∧ (z.set i y).set j x = P ++ y :: (Q ++ x :: R) ∧ (z.set j x).set i y = P ++ y :: (Q ++ x :: R):=by
 subst h; subst hi; subst hj
 exact ⟨get_mid _ _ _,get_mid2 _ _ _ _ _,swp _ _ _ _ _,swp' _ _ _ _ _⟩
theorem drop_next {α : Type} {l : List α} {i : Nat} (h : i < l.length) : ∃ x,l[i]? = some x ∧ l.drop i = x :: l.drop (i + 1) ∧ l.take (i + 1) = l.take i ++ [x]:=by
 refine ⟨l[i],Zc h,List.drop_eq_getElem_cons h,?_⟩
 rw [ZZ,Zc h]; rfl
end Go.Gm
end
section
namespace Go.Gm
def blk (d : Int → Int) (bs : Nat) (l : List Int) : List Int:=if h : bs = 0 ∨ l.length ≤ bs then srtD d l else srtD d (l.take bs) ++ blk d bs (l.drop bs)
termination_by l.length
decreasing_by rw [Zq]; omega
theorem blk_small {d : Int → Int} {bs : Nat} {l : List Int} (h : l.length ≤ bs) : blk d bs l = srtD d l:=by rw [blk,dif_pos (.inr h)]
theorem blk_nil (d : Int → Int) (bs : Nat) : blk d bs [] = []:=by rw [blk_small (by simp)]; rfl
theorem blk_big {d : Int → Int} {bs : Nat} {l : List Int} (h0 : 0 < bs) (h : bs ≤ l.length) : blk d bs l = srtD d (l.take bs) ++ blk d bs (l.drop bs):=by
 by_cases e : l.length = bs
 ·rw [blk_small (by omega),ZD (by omega),Zm (by omega),blk_nil,ZH]
 ·rw [blk,dif_neg (by omega)]
theorem blk_perm (d : Int → Int) (bs : Nat) (l : List Int) : (blk d bs l).Perm l:=by
 rw [blk]
 split
 ·exact srtD_perm d l
 ·rename_i h
  have:=blk_perm d bs (l.drop bs)
  have h2:=(srtD_perm d (l.take bs)).append this
  rwa [ZE] at h2
termination_by l.length
decreasing_by rw [Zq]; omega
theorem blk_len (d : Int → Int) (bs : Nat) (l : List Int) : (blk d bs l).length = l.length:=(blk_perm d bs l).length_eq
theorem StD.sorted2 {d : Int → Int} {L R : List Int} (h : StD d (L ++ R)) : StD d (srtD d L ++ srtD d R):=by
 have h1:=Zv.1 h
 have nd:=h.nodup
 have nL : L.Nodup:=(YC L R).nodup nd
 have nR : R.Nodup:=(YD L R).nodup nd
 refine Zv.2 ⟨?_,?_,fun x hx y hy=>h1.2.2 x ((srtD_perm d L).subset hx) y ((srtD_perm d R).subset hy)⟩
 ·refine List.Pairwise.imp (fun {x y} q e=>?_) (srtD_sorted (d:=d) nL)
  rw [ltD_iff] at q; omega
 ·refine List.Pairwise.imp (fun {x y} q e=>?_) (srtD_sorted (d:=d) nR)
  rw [ltD_iff] at q; omega
theorem srtD_two {d : Int → Int} {L R : List Int} (h : StD d (L ++ R)) : srtD d (srtD d L ++ srtD d R) = srtD d (L ++ R):=srtD_same h.nodup ((srtD_perm d L).append (srtD_perm d R))
theorem take_two {α : Type} (X : List α) (k : Nat) : X.take (2 * k) = X.take k ++ (X.drop k).take k:=by
 rw [show 2 * k = k + k by omega,List.take_add]
theorem drop_two {α : Type} (X : List α) (k : Nat) : X.drop (2 * k) = (X.drop k).drop k:=by rw [Ye,show k + k = 2 * k by omega]
theorem blk_two {d : Int → Int} {bs : Nat} {X : List Int} (h0 : 0 < bs) (h : 2 * bs ≤ X.length) : blk d bs X = srtD d (X.take bs) ++ (srtD d ((X.drop bs).take bs) ++ blk d bs (X.drop (2 * bs))):=by
 rw [blk_big h0 (by omega),blk_big (l:=X.drop bs) h0 (by rw [Zq]; omega),drop_two]
structure Stg (d : Int → Int) (l : List Int) (b1 b2 n a : Nat) (P z : List Int) : Prop where
 hP : P.length = a
 ha : a ≤ n
 hn : l.length = n
 hz : z = P ++ blk d b1 (l.drop a)
 hb : blk d b2 l = P ++ blk d b2 (l.drop a)
theorem Stg.start {d : Int → Int} {l : List Int} {b1 b2 n : Nat} (hn : l.length = n) : Stg d l b1 b2 n 0 [] (blk d b1 l):=⟨rfl,Zh _,hn,rfl,rfl⟩
theorem Stg.len {d : Int → Int} {l : List Int} {b1 b2 n a : Nat} {P z : List Int} (s : Stg d l b1 b2 n a P z) : z.length = n:=by
 rw [s.hz,Zi,blk_len,Zq,s.hP,s.hn]; have:=s.ha; omega
theorem Stg.round {d : Int → Int} {l : List Int} {bs n a : Nat} {P z : List Int} (s : Stg d l bs (2 * bs) n a P z) (h0 : 0 < bs) (hb : a + 2 * bs ≤ n) (hs : StD d l) :
  ∃ L R B z',z = P ++ (L ++ (R ++ B)) ∧ z' = P ++ (srtD d (L ++ R) ++ B) ∧ L.length = bs ∧ R.length = bs ∧ L.Pairwise (LtD d) ∧ R.Pairwise (LtD d) ∧ StD d (L ++ R) ∧ (∀ x ∈ L ++ R,x ∈ l) ∧ Stg d l bs (2 * bs) n (a + 2 * bs) (P ++ srtD d (L ++ R)) z':=by
 have hl:=s.hn
 have hX : 2 * bs ≤ (l.drop a).length:=by rw [Zq]; omega
 obtain ⟨X,hXX⟩ : ∃ X,X = l.drop a:=⟨_,rfl⟩
 have sub : X.Sublist l:=by rw [hXX]; exact ZC _ _
 have hsX : StD d (X.take bs ++ (X.drop bs).take bs):=by rw [← take_two]; exact hs.sub ((ZB _ _).trans sub)
 have nd:=hsX.nodup
 have nL : (X.take bs).Nodup:=(YC _ _).nodup nd
 have nR : ((X.drop bs).take bs).Nodup:=(YD _ _).nodup nd
 rw [← hXX] at hX
 refine ⟨srtD d (X.take bs),srtD d ((X.drop bs).take bs),blk d bs (X.drop (2 * bs)),_,?_,rfl,?_,?_,srtD_sorted nL,srtD_sorted nR,hsX.sorted2,?_,?_,?_,?_,?_,?_⟩
 ·rw [s.hz,← hXX,blk_two h0 hX]
 ·rw [srtD_len,Zr]; omega
 ·rw [srtD_len,Zr,Zq]; omega
 ·intro x hx
  have hx:=((srtD_perm d _).append (srtD_perm d _)).subset hx
  rw [← take_two] at hx
  exact sub.subset ((ZB _ _).subset hx)
 ·rw [Zi,srtD_two hsX,srtD_len,← take_two,Zr,s.hP]; omega
 ·omega
 ·exact hl
 ·rw [srtD_two hsX,← take_two,hXX,Ye,Zf]
 ·rw [s.hb,← hXX,blk_big (by omega) hX,srtD_two hsX,← take_two,hXX,Ye,Zf]
theorem Stg.last {d : Int → Int} {l : List Int} {bs n a : Nat} {P z : List Int} (s : Stg d l bs (2 * bs) n a P z) (h0 : 0 < bs) (hb : ¬ a + 2 * bs ≤ n) (hm : a + bs < n) (hs : StD d l) :
  ∃ L R,z = P ++ (L ++ (R ++ [])) ∧ blk d (2 * bs) l = P ++ (srtD d (L ++ R) ++ []) ∧ L.length = bs ∧ a + bs + R.length = n ∧ L.Pairwise (LtD d) ∧ R.Pairwise (LtD d) ∧ StD d (L ++ R) ∧ (∀ x ∈ L ++ R,x ∈ l):=by
 have hl:=s.hn
 obtain ⟨X,hXX⟩ : ∃ X,X = l.drop a:=⟨_,rfl⟩
 have hX : X.length + a = n:=by rw [hXX,Zq]; omega
 have sub : X.Sublist l:=by rw [hXX]; exact ZC _ _
 have hsX : StD d (X.take bs ++ X.drop bs):=by rw [ZE]; exact hs.sub sub
 have nd:=hsX.nodup
 have nL : (X.take bs).Nodup:=(YC _ _).nodup nd
 have nR : (X.drop bs).Nodup:=(YD _ _).nodup nd
 refine ⟨srtD d (X.take bs),srtD d (X.drop bs),?_,?_,?_,?_,srtD_sorted nL,srtD_sorted nR,hsX.sorted2,?_⟩
 ·rw [s.hz,← hXX,blk_big h0 (by omega),blk_small (l:=X.drop bs) (by rw [Zq]; omega),ZH]
 ·rw [s.hb,← hXX,blk_small (by omega),srtD_two hsX,ZE,ZH]
 ·rw [srtD_len,Zr]; omega
 ·rw [srtD_len,Zq]; omega
 ·intro x hx
  have hx:=((srtD_perm d _).append (srtD_perm d _)).subset hx
  rw [ZE] at hx
  exact sub.subset hx
theorem Stg.rest {d : Int → Int} {l : List Int} {bs n a : Nat} {P z : List Int} (s : Stg d l bs (2 * bs) n a P z) (hm : ¬ a + bs < n) : z = blk d (2 * bs) l:=by
 have hl:=s.hn
 rw [s.hz,s.hb,blk_small (by rw [Zq]; omega),blk_small (by rw [Zq]; omega)]
structure Stg0 (d : Int → Int) (l : List Int) (bs n a : Nat) (P z : List Int) : Prop where
 hP : P.length = a
 ha : a ≤ n
 hn : l.length = n
 hz : z = P ++ l.drop a
 hb : blk d bs l = P ++ blk d bs (l.drop a)
theorem Stg0.len {d : Int → Int} {l : List Int} {bs n a : Nat} {P z : List Int} (s : Stg0 d l bs n a P z) : z.length = n:=by
 rw [s.hz,Zi,Zq,s.hP,s.hn]; have:=s.ha; omega
theorem Stg0.round {d : Int → Int} {l : List Int} {bs n a : Nat} {P z : List Int} (s : Stg0 d l bs n a P z) (h0 : 0 < bs) (hb : a + bs ≤ n) (hs : StD d l) :
  ∃ X B,z = P ++ (X ++ B) ∧ X.length = bs ∧ StD d X ∧ (∀ x ∈ X,x ∈ l) ∧ Stg0 d l bs n (a + bs) (P ++ srtD d X) (P ++ (srtD d X ++ B)):=by
 have hl:=s.hn
 have hX : bs ≤ (l.drop a).length:=by rw [Zq]; omega
 refine ⟨(l.drop a).take bs,(l.drop a).drop bs,by rw [ZE]; exact s.hz,by rw [Zr]; omega,hs.sub ((ZB _ _).trans (ZC _ _)),fun x hx=>((ZB _ _).trans (ZC _ _)).subset hx,?_,by omega,hl,?_,?_⟩
 ·rw [Zi,srtD_len,Zr,s.hP]; omega
 ·rw [Ye,Zf]
 ·rw [s.hb,blk_big h0 hX,Ye,Zf]
theorem Stg0.last {d : Int → Int} {l : List Int} {bs n a : Nat} {P z : List Int} (s : Stg0 d l bs n a P z) (hb : ¬ a + bs ≤ n) (hs : StD d l) :
  ∃ X,z = P ++ (X ++ []) ∧ n = a + X.length ∧ StD d X ∧ (∀ x ∈ X,x ∈ l) ∧ blk d bs l = P ++ (srtD d X ++ []):=by
 have hl:=s.hn
 have ha:=s.ha
 refine ⟨l.drop a,by rw [ZH]; exact s.hz,by rw [Zq]; omega,hs.sub (ZC _ _),fun x hx=>(ZC _ _).subset hx,?_⟩
 rw [s.hb,blk_small (by rw [Zq]; omega),ZH]
end Go.Gm
end
section
namespace Go.Gm
def LtP (evs : List Ev) (d : List Int) : Prop:=∀ (i : Nat) (e : Ev),evs[i]? = some e → 0 < d.getD i 0 → ∀ p ∈ e.prev,0 < dAt evs d p ∧ dAt evs d p < d.getD i 0
end Go.Gm
end
end
section
namespace Go.Proofs.Ytnlobbbbgcdiiaa
open Go.Pm
open Go.Gm (LtD ltD StD srtD)
theorem drop_encI (z : List Int) (q : Nat) : ((z.map encI).getD q []).drop 1 = []:=by
 rw [Zp,Zg]
 cases z[q]? <;> rfl
@[method_specs_simp] theorem set_encI (z : List Int) (q : Nat) (y : Int) : (z.map encI).set q (.int .i64 y :: ((z.map encI).getD q []).drop 1) = (z.set q y).map encI:=by
 rw [drop_encI,Yi]; rfl
section
variable {P : Program} [Is P]
theorem wadd (a b : Nat) (h : a + b < 2 ^ 62) : IntKind.i64.wrap ((a : Int) + (b : Int)) = ((a + b : Nat) : Int):=by rw [wrap_id (by omega) (by omega)]; rfl
theorem wsub (a b : Nat) (h : a < 2 ^ 62) (h2 : b ≤ a) : IntKind.i64.wrap ((a : Int) - (b : Int)) = ((a - b : Nat) : Int):=by rw [wrap_id (by omega) (by omega)]; omega
theorem wadd1 (a : Nat) (h : a + 1 < 2 ^ 62) : IntKind.i64.wrap ((a : Int) + 1) = ((a + 1 : Nat) : Int):=wadd a 1 h
theorem wsub1 (a : Nat) (h : a < 2 ^ 62) (h2 : 1 ≤ a) : IntKind.i64.wrap ((a : Int) - 1) = ((a - 1 : Nat) : Int):=wsub a 1 h h2
theorem n_swapRange {l l' : List Int} {n a b k : Nat} {A X M Y B : List Int} (c : FuncId) (dl : List Int) (h : l = A ++ (X ++ (M ++ (Y ++ B)))) (h' : l' = A ++ (Y ++ (M ++ (X ++ B))))
  (ha : a = A.length) (hk : k = X.length) (hy : k = Y.length) (hb : b = a + k + M.length) (hn : n = l.length) (hlt : n < 2 ^ 60) :
  LCon P 249 [.ar 0 0 n,.int .i64 a,.int .i64 b,.int .i64 k,.fn c [] [.fptr [.sl 1 (dl.map encI)] 0]] [.arr true 1 (l.map encI)] (.tup []) [.arr true 1 (l'.map encI)]:=by
 have hbk : b + k ≤ n:=by rw [hn,h]; simp only [Zi]; omega
 refine LCon.of (n:=38) (rs:=[]) (Is.fn Try.func249) rfl (Is.call Try.call249) Try.results249 Try.ntmps249 ?_
 simp only [method_specs_simp,seval]
 refine SW.while (A:=Nat × List Int) (fun p=>⟨pad 38 [.ar 0 0 n,.int .i64 a,.int .i64 b,.int .i64 k,.fn c [] [.fptr [.sl 1 (dl.map encI)] 0],.junk,.junk,.junk,.junk,.junk,.int .i64 p.1],[.arr true 1 (p.2.map encI)],[.ar 0 0 n,.eptr 0 1 0]⟩)
  (fun p=>k - p.1) (fun p=>p.1 ≤ k ∧ p.2.length = n ∧ p.2 = A ++ ((Y.take p.1 ++ X.drop p.1) ++ (M ++ ((X.take p.1 ++ Y.drop p.1) ++ B)))) (0,l) [0] ⟨Zh _,hn.symm,h⟩ ?_ ?_
 ·simp only [mvcgen_simp,method_specs_simp,seval]
  exact hn
 ·rintro ⟨i,z⟩ ⟨hi,hzl,hz⟩
  simp only at hi hzl hz
  refine CW.sound ?_
  simp only [method_specs_simp,seval,hzl]
  refine gB_split (fun h1=>?_) (fun h1=>?_)
  ·simp only [decide_eq_true_eq,Za] at h1
   obtain ⟨j,hj⟩ : ∃ j,j = b + i:=⟨_,rfl⟩
   obtain ⟨q,hq⟩ : ∃ q,q = a + i:=⟨_,rfl⟩
   have wj : IntKind.i64.wrap ((b : Int) + (i : Int)) = (j : Int):=by rw [hj]; exact wadd b i (by omega)
   have wq : IntKind.i64.wrap ((a : Int) + (i : Int)) = (q : Int):=by rw [hq]; exact wadd a i (by omega)
   have wi : IntKind.i64.wrap ((i : Int) + 1) = ((i + 1 : Nat) : Int):=wadd1 i (by omega)
   simp only [wj,wq]
   obtain ⟨x,hx1,hx2,hx3⟩:=Gm.drop_next (l:=X) (i:=i) (by omega)
   obtain ⟨y,hy1,hy2,hy3⟩:=Gm.drop_next (l:=Y) (i:=i) (by omega)
   have hz2 : z = (A ++ Y.take i) ++ x :: ((X.drop (i + 1) ++ (M ++ X.take i)) ++ y :: (Y.drop (i + 1) ++ B)):=by rw [hz,hx2,hy2]; simp only [Zf,ZF]
   have lx : (X.take i).length = i:=by rw [Zr]; omega
   have ly : (Y.take i).length = i:=by rw [Zr]; omega
   obtain ⟨g1,g2,g3,_⟩:=Gm.two_get (i:=q) (j:=j) hz2 (by rw [Zi]; omega) (by simp only [Zi,Zq]; omega)
   refine ⟨by kernel_rfl,by omega,by omega,?_⟩
   simp only [method_specs_simp,seval,g1,g2,encI,wj,wq]
   refine ⟨by omega,by omega,by omega,by omega,by omega,by omega,?_⟩
   rw [wi]
   refine ⟨by omega,by rw [ZJ]; omega,?_⟩
   refine Again.mk (i + 1,(z.set q y).set j x) [0] ⟨h1,by simp only [ZJ]; exact hzl,?_⟩ (Zd h1 (Ze _)) ?_
   ·show (z.set q y).set j x = A ++ ((Y.take (i + 1) ++ X.drop (i + 1)) ++ (M ++ ((X.take (i + 1) ++ Y.drop (i + 1)) ++ B)))
    rw [g3,hx3,hy3]
    simp only [Zf,ZF,Zx]
   ·simp only [mvcgen_simp,method_specs_simp,seval]
  ·have e : i = k:=by simp only [decide_eq_false_iff_not,Zb,Za] at h1; omega
   have e2 : z = l':=by
    rw [hz,h',e,Zm (by omega),Zm (by omega),ZD (by omega),ZD (by omega)]
    simp only [ZH]
   refine LResY.mk [0] ?_
   simp only [mvcgen_simp,method_specs_simp,seval,e2,hn]
theorem n_rotate {l l' : List Int} {n a m b : Nat} {A X Y B : List Int} (c : FuncId) (dl : List Int) (h : l = A ++ (X ++ (Y ++ B))) (h' : l' = A ++ (Y ++ (X ++ B)))
  (ha : a = A.length) (hm : m = a + X.length) (hb : b = m + Y.length) (hX : X ≠ []) (hY : Y ≠ []) (hn : n = l.length) (hlt : n < 2 ^ 60) :
  LCon P 246 [.ar 0 0 n,.int .i64 a,.int .i64 m,.int .i64 b,.fn c [] [.fptr [.sl 1 (dl.map encI)] 0]] [.arr true 1 (l.map encI)] (.tup []) [.arr true 1 (l'.map encI)]:=by
 have hbn : b ≤ n:=by rw [hn,h]; simp only [Zi]; omega
 have w1 : IntKind.i64.wrap ((m : Int) - (a : Int)) = (X.length : Int):=by rw [wsub m a (by omega) (by omega)]; omega
 have w2 : IntKind.i64.wrap ((b : Int) - (m : Int)) = (Y.length : Int):=by rw [wsub b m (by omega) (by omega)]; omega
 have x1 : 1 ≤ X.length:=by cases X with | nil=>exact absurd rfl hX | cons _ _=>simp
 have y1 : 1 ≤ Y.length:=by cases Y with | nil=>exact absurd rfl hY | cons _ _=>simp
 refine LCon.of (n:=58) (rs:=[]) (Is.fn Try.func246) rfl (Is.call Try.call246) Try.results246 Try.ntmps246 ?_
 simp only [method_specs_simp,seval,w1,w2]
 refine SW.while (A:=Nat × Nat × List Int) (fun p=>⟨pad 58 [.ar 0 0 n,.int .i64 a,.int .i64 m,.int .i64 b,.fn c [] [.fptr [.sl 1 (dl.map encI)] 0],.junk,.junk,.junk,.junk,.junk,.int .i64 p.1,.int .i64 p.2.1],[.arr true 1 (p.2.2.map encI)],[.ar 0 0 n,.eptr 0 1 0]⟩)
  (fun p=>p.1 + p.2.1) (fun p=>1 ≤ p.1 ∧ 1 ≤ p.2.1 ∧ p.2.2.length = n ∧ ∃ C D E F,p.2.2 = C ++ (D ++ (E ++ F)) ∧ l' = C ++ (E ++ (D ++ F)) ∧ p.1 = D.length ∧ p.2.1 = E.length ∧ m = C.length + p.1) (X.length,Y.length,l) [0]
  ⟨x1,y1,hn.symm,A,X,Y,B,h,h',rfl,rfl,by rw [hm,ha]⟩ ?_ ?_
 ·simp only [mvcgen_simp,method_specs_simp,seval]
  exact hn
 ·rintro ⟨i,j,z⟩ ⟨hi,hj,hzl,C,D,E,F,hz,hz',hD,hE,hm'⟩
  simp only at hi hj hzl hz hD hE hm'
  have hlen : z.length = C.length + (D.length + (E.length + F.length)):=by rw [hz]; simp only [Zi]
  have wi : IntKind.i64.wrap ((m : Int) - (i : Int)) = ((m - i : Nat) : Int):=wsub m i (by omega) (by omega)
  refine CW.sound ?_
  simp only [method_specs_simp,seval,hzl]
  by_cases hij : i = j
  ·have hne : ((i : Int) != (j : Int)) = false:=by rw [hij]; simp
   simp only [method_specs_simp,seval,hne,wi]
   refine clY.live [0] [] (n_swapRange (n:=n) (a:=m - i) (b:=m) (k:=i) (l:=z) (l':=l') (A:=C) (X:=D) (M:=[]) (Y:=E) (B:=F) c dl hz hz' (by omega) hD (by omega) (by simp only [ZK]; omega) hzl.symm hlt) ?_ (by simp) ?_
   ·simp only [mvcgen_simp,method_specs_simp,seval]
   simp only [method_specs_simp,seval]
   refine LResY.mk [0] ?_
   simp only [mvcgen_simp,method_specs_simp,seval,hn]
  ·have hne : ((i : Int) != (j : Int)) = true:=by simp only [bne_iff_ne,ne_eq]; omega
   simp only [method_specs_simp,seval,hne]
   refine gB_split (fun h1=>?_) (fun h1=>?_)
   ·simp only [decide_eq_true_eq,gt_iff_lt,Za] at h1
    have e1 : D = D.take j ++ D.drop j:=(ZE _ _).symm
    have l1 : (D.take j).length = j:=by rw [Zr]; omega
    have l2 : (D.drop j).length = i - j:=by rw [Zq]; omega
    have wij : IntKind.i64.wrap ((i : Int) - (j : Int)) = ((i - j : Nat) : Int):=wsub i j (by omega) (by omega)
    rw [wi]
    refine clY.live [0] [] (n_swapRange (n:=n) (a:=m - i) (b:=m) (k:=j) (l:=z) (l':=C ++ (E ++ (D.drop j ++ (D.take j ++ F)))) (A:=C) (X:=D.take j) (M:=D.drop j) (Y:=E) (B:=F) c dl (by rw [hz,← Zf (D.take j),← e1]) rfl (by omega) l1.symm hE (by omega) hzl.symm hlt) ?_ (by simp) ?_
    ·simp only [mvcgen_simp,method_specs_simp,seval]
    simp only [method_specs_simp,seval,wij]
    refine Again.mk (i - j,j,_) [0] ⟨by show 1 ≤ i - j; omega,hj,?_,C ++ E,D.drop j,D.take j,F,by rw [Zf],?_,l2.symm,l1.symm,?_⟩ ?_ ?_
    ·show (C ++ (E ++ (D.drop j ++ (D.take j ++ F)))).length = n
     simp only [Zi,l1,l2]; omega
    ·rw [hz']
     conv=>lhs; rw [e1]
     simp only [Zf]
    ·show m = (C ++ E).length + (i - j)
     simp only [Zi]; omega
    ·show i - j + j < i + j; omega
    ·simp only [mvcgen_simp,method_specs_simp,seval]
   ·simp only [decide_eq_false_iff_not,Zb,gt_iff_lt,Za] at h1
    have e1 : E = E.take (j - i) ++ E.drop (j - i):=(ZE _ _).symm
    have l1 : (E.take (j - i)).length = j - i:=by rw [Zr]; omega
    have l2 : (E.drop (j - i)).length = i:=by rw [Zq]; omega
    have wji : IntKind.i64.wrap ((j : Int) - (i : Int)) = ((j - i : Nat) : Int):=wsub j i (by omega) (by omega)
    have wmj : IntKind.i64.wrap (IntKind.i64.wrap ((m : Int) + (j : Int)) - (i : Int)) = ((m + j - i : Nat) : Int):=by rw [wadd m j (by omega)]; exact wsub (m + j) i (by omega) (by omega)
    rw [wi,wmj]
    refine clY.live [0] [] (n_swapRange (n:=n) (a:=m - i) (b:=m + j - i) (k:=i) (l:=z) (l':=C ++ (E.drop (j - i) ++ (E.take (j - i) ++ (D ++ F)))) (A:=C) (X:=D) (M:=E.take (j - i)) (Y:=E.drop (j - i)) (B:=F) c dl (by rw [hz,← Zf (E.take (j - i)),← e1]) rfl (by omega) hD l2.symm (by omega) hzl.symm hlt) ?_ (by simp) ?_
    ·simp only [mvcgen_simp,method_specs_simp,seval]
    simp only [method_specs_simp,seval,wji]
    refine Again.mk (i,j - i,_) [0] ⟨hi,by show 1 ≤ j - i; omega,?_,C,E.drop (j - i),E.take (j - i),D ++ F,rfl,?_,l2.symm,l1.symm,hm'⟩ ?_ ?_
    ·show (C ++ (E.drop (j - i) ++ (E.take (j - i) ++ (D ++ F)))).length = n
     simp only [Zi,l1,l2]; omega
    ·rw [hz']
     conv=>lhs; rw [e1]
     simp only [Zf]
    ·show i + (j - i) < i + j; omega
    ·simp only [mvcgen_simp,method_specs_simp,seval]
theorem n_insert {l l' : List Int} {n a b : Nat} {A X B : List Int} {d : Int → Int} (c : FuncId) (dl : List Int) (hcmp : ∀ x ∈ X,∀ y ∈ X,Con P c [.int .i64 x,.int .i64 y,.fptr [.sl 1 (dl.map encI)] 0] (.int .i64 (cmpI (d x) (d y))))
  (h : l = A ++ (X ++ B)) (h' : l' = A ++ (srtD d X ++ B)) (ha : a = A.length) (hb : b = a + X.length) (hs : StD d X) (hn : n = l.length) (hlt : n < 2 ^ 60) :
  LCon P 237 [.ar 0 0 n,.int .i64 a,.int .i64 b,.fn c [] [.fptr [.sl 1 (dl.map encI)] 0]] [.arr true 1 (l.map encI)] (.tup []) [.arr true 1 (l'.map encI)]:=by
 have hbn : b ≤ n:=by rw [hn,h]; simp only [Zi]; omega
 have wa : IntKind.i64.wrap ((a : Int) + 1) = ((a + 1 : Nat) : Int):=wadd1 a (by omega)
 refine LCon.of (n:=53) (rs:=[]) (Is.fn Try.func237) rfl (Is.call Try.call237) Try.results237 Try.ntmps237 ?_
 simp only [method_specs_simp,seval,wa]
 refine SW.while (A:=Nat × List Int) (fun p=>⟨pad 53 [.ar 0 0 n,.int .i64 a,.int .i64 b,.fn c [] [.fptr [.sl 1 (dl.map encI)] 0],.junk,.junk,.junk,.junk,.int .i64 p.1],[.arr true 1 (p.2.map encI)],[.ar 0 0 n,.eptr 0 1 0]⟩)
  (fun p=>b + 1 - p.1) (fun p=>a + 1 ≤ p.1 ∧ (p.1 ≤ b ∨ p.1 = a + 1) ∧ p.2.length = n ∧ p.2 = A ++ (srtD d (X.take (p.1 - a)) ++ (X.drop (p.1 - a) ++ B))) (a + 1,l) [0] ⟨Zl _,.inr rfl,hn.symm,?_⟩ ?_ ?_
 ·show l = A ++ (srtD d (X.take (a + 1 - a)) ++ (X.drop (a + 1 - a) ++ B))
  rw [h,show a + 1 - a = 1 by omega]
  cases X <;> rfl
 ·simp only [mvcgen_simp,method_specs_simp,seval]
  try exact hn
 ·rintro ⟨i,z⟩ ⟨hk1,hk2,hzl,hz⟩
  simp only at hk1 hk2 hzl hz
  obtain ⟨k,hk⟩ : ∃ k,k = i - a:=⟨_,rfl⟩
  rw [← hk] at hz
  refine CW.sound ?_
  simp only [method_specs_simp,seval,hzl]
  refine gB_split (fun h1=>?_) (fun h1=>?_)
  ·simp only [decide_eq_true_eq,Za] at h1
   obtain ⟨x,hx1,hx2,hx3⟩:=Gm.drop_next (l:=X) (i:=k) (by omega)
   have hSl : (srtD d (X.take k)).length = k:=by rw [Gm.srtD_len,Zr]; omega
   refine SW.while (A:=Nat × List Int) (fun p=>⟨pad 53 [.ar 0 0 n,.int .i64 a,.int .i64 b,.fn c [] [.fptr [.sl 1 (dl.map encI)] 0],.junk,.junk,.junk,.junk,.int .i64 i,.int .i64 p.1],[.arr true 1 (p.2.map encI)],[.ar 0 0 n,.eptr 0 1 0]⟩)
    (fun p=>p.1) (fun p=>p.2.length = n ∧ ∃ S1 S2,srtD d (X.take k) = S1 ++ S2 ∧ p.2 = A ++ (S1 ++ x :: (S2 ++ (X.drop (k + 1) ++ B))) ∧ p.1 = a + S1.length ∧ ∀ y ∈ S2,LtD d x y) (i,z) [0] ⟨hzl,srtD d (X.take k),[],by simp,?_,?_,by simp⟩ ?_ ?_
   ·show z = _
    rw [hz,hx2]; rfl
   ·show i = a + (srtD d (X.take k)).length
    omega
   ·simp only [mvcgen_simp,method_specs_simp,seval]
   ·rintro ⟨j,z2⟩ ⟨hzl2,S1,S2,hS,hz2,hj,hS2⟩
    simp only at hzl2 hz2 hj
    have hS1 : S1.length + S2.length = k:=by rw [← Zi,← hS]; exact hSl
    have hsx : StD d (X.take (k + 1)):=hs.sub (ZB _ _)
    have hsS : (S1 ++ S2).Pairwise (LtD d):=by rw [← hS]; exact Gm.srtD_sorted (hs.sub (ZB _ _)).nodup
    have hmem : ∀ y ∈ S1 ++ S2,y ∈ X.take k:=fun y hy=>(Gm.srtD_perm d _).subset (by rw [hS]; exact hy)
    have fin : (∀ y ∈ S1,LtD d y x) → S1 ++ x :: S2 = srtD d (X.take (k + 1)):=fun h1=>by
     refine Gm.srtD_of ?_ ?_
     ·rw [hx3]
      refine List.perm_middle.trans (((Gm.srtD_perm d (X.take k)).symm.trans (by rw [hS])).symm.cons x |>.trans ?_)
      exact (YT x _).symm
     ·have hp:=Zv.1 hsS
      refine Zv.2 ⟨hp.1,ZI.2 ⟨hS2,hp.2.1⟩,fun y hy z hz=>?_⟩
      rcases Zz.1 hz with rfl | hz
      ·exact h1 y hy
      ·exact hp.2.2 y hy z hz
    have fin2 : (∀ y ∈ S1,LtD d y x) → z2 = A ++ (srtD d (X.take (i + 1 - a)) ++ (X.drop (i + 1 - a) ++ B)):=fun h1=>by
     rw [hz2,show i + 1 - a = k + 1 by omega,← fin h1]
     simp only [Zf,ZF]
    have wi : IntKind.i64.wrap ((i : Int) + 1) = ((i + 1 : Nat) : Int):=wadd1 i (by omega)
    refine CW.sound ?_
    simp only [method_specs_simp,seval,hzl2,wi]
    refine ⟨by kernel_rfl,?_⟩
    refine gB_split (fun h2=>?_) (fun h2=>?_)
    ·simp only [decide_eq_true_eq,gt_iff_lt,Za] at h2
     obtain ⟨S3,y,rfl⟩ : ∃ S3 y,S1 = S3 ++ [y]:=by
      rcases List.eq_nil_or_concat S1 with rfl | ⟨S3,y,rfl⟩
      ·simp at hj; omega
      ·exact ⟨S3,y,by simp⟩
     rw [Zi,ZU] at hj hS1
     have hz3 : z2 = (A ++ S3) ++ y :: ([] ++ x :: (S2 ++ (X.drop (k + 1) ++ B))):=by rw [hz2]; simp only [Zf,ZF,Zx]
     obtain ⟨q,hq⟩ : ∃ q,q = j - 1:=⟨_,rfl⟩
     have wq : IntKind.i64.wrap ((j : Int) - 1) = (q : Int):=by rw [hq]; exact wsub1 j (by omega) (by omega)
     obtain ⟨g1,g2,_,g3⟩:=Gm.two_get (i:=q) (j:=j) hz3 (by rw [Zi]; omega) (by simp only [Zi,ZK]; omega)
     have hyX : y ∈ X.take k:=hmem y (by simp)
     refine ⟨by omega,by omega,?_⟩
     simp only [method_specs_simp,seval,g1,g2,encI,wq]
     refine ⟨by omega,by omega,?_⟩
     have hc0:=hcmp x (ZG hx1) y (List.mem_of_mem_take hyX)
     have hle : decide (cmpI (d x) (d y) < 0) = ltD d x y:=by
      rw [← Gm.behind (x:=y) (y:=x)]
      ·unfold cmpI
       split
       ·rename_i h5; simp [h5]
       ·rename_i h5
        split <;> simp [h5]
      ·intro he
       rw [hx3] at hsx
       exact (Zv.1 hsx).2.2 y hyX x (by simp) he
     refine clY.conC hc0 rfl (by simp only [method_specs_simp]) ?_
     simp only [method_specs_simp,seval,hle,wq]
     refine gB_split (fun h5=>?_) (fun h5=>?_)
     ·refine ⟨by kernel_rfl,by omega,by omega,?_⟩
      simp only [method_specs_simp,seval,g1,g2,encI,wq]
      refine ⟨by omega,by omega,by omega,by omega,by omega,by omega,by omega,by (try rw [ZJ]); omega,?_⟩
      refine Again.mk (q,(z2.set j y).set q x) [0] ⟨by simp only [ZJ]; exact hzl2,S3,y :: S2,hS.trans (by simp),?_,?_,?_⟩ (by show q < j; omega) ?_
      ·show (z2.set j y).set q x = _
       rw [g3]
       simp only [Zf,ZF,Zx]
      ·show q = a + S3.length; omega
      ·intro y' hy'
       rcases Zz.1 hy' with rfl | hy'
       ·exact h5
       ·exact hS2 y' hy'
      ·simp only [mvcgen_simp,method_specs_simp,seval]
     ·have hlast : ∀ y' ∈ S3 ++ [y],LtD d y' x:=by
       have hyx : LtD d y x:=Gm.ltD_tot (fun e=>by
        rw [hx3] at hsx
        have:=(Zv.1 hsx).2.2 y hyX x (by simp) (by rw [e])
        omega) (by unfold LtD; rw [h5]; decide)
       intro y' hy'
       rcases ZS.1 hy' with hy' | hy'
       ·have hp:=Zv.1 (Zv.1 hsS).1
        exact (Gm.ltD_str d).tr _ _ _ (hp.2.2 y' hy' y (by simp)) hyx
       ·simp only [Zz,List.not_mem_nil,or_false] at hy'
        rw [hy']; exact hyx
      rw [wi]
      refine Again.mk (i + 1,z2) [0] ⟨by show a + 1 ≤ i + 1; omega,.inl (by show i + 1 ≤ b; omega),hzl2,fin2 hlast⟩ (by show b + 1 - (i + 1) < b + 1 - i; omega) ?_
      simp only [mvcgen_simp,method_specs_simp,seval]
    ·have hn0 : S1 = []:=by
      simp only [decide_eq_false_iff_not,Zb,gt_iff_lt,Za] at h2
      exact Yz (by omega)
     refine Again.mk (i + 1,z2) [0] ⟨by show a + 1 ≤ i + 1; omega,.inl (by show i + 1 ≤ b; omega),hzl2,fin2 (by rw [hn0]; simp)⟩ (by show b + 1 - (i + 1) < b + 1 - i; omega) ?_
     simp only [mvcgen_simp,method_specs_simp,seval]
  ·have e2 : z = l':=by
    simp only [decide_eq_false_iff_not,Zb,Za] at h1
    rw [hz,h',ZD (by omega),Zm (by omega)]; rfl
   refine LResY.mk [0] ?_
   simp only [mvcgen_simp,method_specs_simp,seval,e2,hn]
end
structure MG (P : Program) (d : Int → Int) (c : FuncId) (dl : List Int) (l l' : List Int) (n a m b : Nat) (A L R B : List Int) : Prop where
 h : l = A ++ (L ++ (R ++ B))
 h' : l' = A ++ (srtD d (L ++ R) ++ B)
 ha : a = A.length
 hm : m = a + L.length
 hb : b = m + R.length
 l1 : 1 ≤ L.length
 r1 : 1 ≤ R.length
 hL : L.Pairwise (LtD d)
 hR : R.Pairwise (LtD d)
 hs : StD d (L ++ R)
 hc : ∀ x ∈ L ++ R,∀ y ∈ L ++ R,Con P c [.int .i64 x,.int .i64 y,.fptr [.sl 1 (dl.map encI)] 0] (.int .i64 (cmpI (d x) (d y)))
 hn : n = l.length
 hlt : n < 2 ^ 60
theorem MG.cmp {P : Program} {d : Int → Int} {c : FuncId} {dl l l' : List Int} {n a m b : Nat} {A L R B : List Int} (g : MG P d c dl l l' n a m b A L R B) {x y : Int} (hx : x ∈ L) (hy : y ∈ R) : decide (cmpI (d y) (d x) < 0) = ltD d y x:=by
 have h2 : d x = d y → x < y:=(Zv.1 g.hs).2.2 x hx y hy
 rw [← Gm.behind h2]
 unfold cmpI
 split
 ·rename_i h5; simp [h5]
 ·rename_i h5
  split <;> simp [h5]
theorem MG.bn {P : Program} {d : Int → Int} {c : FuncId} {dl l l' : List Int} {n a m b : Nat} {A L R B : List Int} (g : MG P d c dl l l' n a m b A L R B) : b ≤ n:=by
 have:=g.ha; have:=g.hm; have:=g.hb
 rw [g.hn,g.h]; simp only [Zi]; omega
section
variable {P : Program} [Is P]
theorem mid_at (i j : Nat) (h : i + j < 2 ^ 62) : IntKind.i64.wrap ((IntKind.u64.wrap (IntKind.i64.wrap ((i : Int) + (j : Int)))).fdiv (2 ^ min 1 IntKind.u64.bits)) = (((i + j) / 2 : Nat) : Int):=by
 have e1 : IntKind.i64.wrap ((i : Int) + j) = (i : Int) + j:=wrap_id (by omega) (by omega)
 have e2 : IntKind.u64.wrap ((i : Int) + j) = (i : Int) + j:=by simp [IntKind.wrap,IntKind.bits,IntKind.signed]; omega
 have e3 : ((i : Int) + j).fdiv (2 ^ min 1 IntKind.u64.bits) = (((i + j) / 2 : Nat) : Int):=by
  simp only [IntKind.bits]
  rw [YQ _ (by decide)]
  show ((i : Int) + j) / 2 = _
  omega
 rw [e1,e2,e3]
 exact wrap_id (by omega) (by omega)
theorem n_sym1 {d : Int → Int} (c : FuncId) (dl : List Int) {l l' : List Int} {n a m b : Nat} {A L R B : List Int} (g : MG P d c dl l l' n a m b A L R B) (c1 : L.length = 1) :
  LCon P 238 [.ar 0 0 n,.int .i64 a,.int .i64 m,.int .i64 b,.fn c [] [.fptr [.sl 1 (dl.map encI)] 0]] [.arr true 1 (l.map encI)] (.tup []) [.arr true 1 (l'.map encI)]:=by
  have bn:=g.bn
  have e1:=g.ha
  have e2:=g.hm
  have e3:=g.hb
  have e4:=g.hlt
  have w1 : IntKind.i64.wrap ((m : Int) - (a : Int)) = (L.length : Int):=by rw [wsub m a (by omega) (by omega)]; omega
  have w2 : IntKind.i64.wrap ((b : Int) - (m : Int)) = (R.length : Int):=by rw [wsub b m (by omega) (by omega)]; omega
  refine LCon.of (n:=220) (rs:=[]) (Is.fn Try.func238) rfl (Is.call Try.call238) Try.results238 Try.ntmps238 ?_
  simp only [method_specs_simp,seval,w1,w2]
  have d1 : ((L.length : Int) == 1) = true:=by rw [c1]; rfl
  simp only [method_specs_simp,seval,d1]
  obtain ⟨x,rfl⟩ : ∃ x,L = [x]:=by
   match L,c1 with
   | [x],_=>exact ⟨x,rfl⟩
  have hln:=g.hn.symm
  have hlx : l[a]? = some x:=by rw [g.h,e1]; exact Gm.get_mid _ _ _
  refine SW.while (A:=Nat × Nat) (fun p=>⟨pad 220 [.ar 0 0 n,.int .i64 a,.int .i64 m,.int .i64 b,.fn c [] [.fptr [.sl 1 (dl.map encI)] 0],.junk,.junk,.junk,.junk,.junk,.int .i64 p.1,.int .i64 p.2],[.arr true 1 (l.map encI)],[.ar 0 0 n,.eptr 0 1 0]⟩)
   (fun p=>p.2 - p.1) (fun p=>m ≤ p.1 ∧ p.1 ≤ p.2 ∧ p.2 ≤ b ∧ (p.1 = m ∨ ∃ y,R[p.1 - 1 - m]? = some y ∧ LtD d y x) ∧ (p.2 = b ∨ ∃ y,R[p.2 - m]? = some y ∧ LtD d x y)) (m,b) [0] ⟨Zl _,by show m ≤ b; omega,Zl _,.inl rfl,.inl rfl⟩ ?_ ?_
  ·simp only [mvcgen_simp,method_specs_simp,seval]
   try exact hln.symm
  ·rintro ⟨i,j⟩ ⟨hi,hij,hj,p1,p2⟩
   simp only at hi hij hj p1 p2
   refine CW.sound ?_
   simp only [method_specs_simp,seval,hln]
   refine gB_split (fun h1=>?_) (fun h1=>?_)
   ·simp only [decide_eq_true_eq,Za] at h1
    obtain ⟨k,hk⟩ : ∃ k,k = (i + j) / 2:=⟨_,rfl⟩
    have wk : IntKind.i64.wrap ((IntKind.u64.wrap (IntKind.i64.wrap ((i : Int) + (j : Int)))).fdiv (2 ^ min 1 IntKind.u64.bits)) = (k : Int):=by rw [hk]; exact mid_at i j (by omega)
    have wk1 : IntKind.i64.wrap ((k : Int) + 1) = ((k + 1 : Nat) : Int):=wadd1 k (by omega)
    obtain ⟨y,hy⟩ : ∃ y,R[k - m]? = some y:=⟨_,Zc (by omega)⟩
    have hly : l[k]? = some y:=by
     rw [g.h,ZA (by omega),ZA (by simp only [ZU]; simp only [ZU] at e2; omega),Yl (by simp only [ZU] at e2 ⊢; omega),← hy]
     congr 1
     simp only [ZU] at e2 ⊢; omega
    simp only [wk]
    refine ⟨by kernel_rfl,by omega,by omega,?_⟩
    simp only [method_specs_simp,seval,hly,hlx,encI,wk]
    refine ⟨by omega,by omega,?_⟩
    have hyR : y ∈ R:=ZG hy
    have hle:=g.cmp (x:=x) (y:=y) (by simp) hyR
    refine clY.conC (g.hc y (by simp [hyR]) x (by simp)) rfl (by simp only [method_specs_simp]) ?_
    simp only [method_specs_simp,seval,hle,wk1]
    refine gB_split (fun h2=>?_) (fun h2=>?_)
    ·refine Again.mk (k + 1,j) [0] ⟨by show m ≤ k + 1; omega,by show k + 1 ≤ j; omega,hj,.inr ⟨y,by show R[k + 1 - 1 - m]? = some y; rw [← hy,YU],h2⟩,p2⟩ (by show j - (k + 1) < j - i; omega) ?_
     simp only [mvcgen_simp,method_specs_simp,seval]
    ·have hne : x ≠ y:=fun e=>by
      have hnd:=g.hs.nodup
      rw [YE] at hnd
      exact hnd.2.2 x (by simp) y hyR e
     refine Again.mk (i,k) [0] ⟨hi,by show i ≤ k; omega,by show k ≤ b; omega,p1,.inr ⟨y,hy,Gm.ltD_tot (fun e=>hne e.symm) (by unfold LtD; rw [h2]; decide)⟩⟩ (by show k - i < j - i; omega) ?_
     simp only [mvcgen_simp,method_specs_simp,seval]
   ·have hij2 : i = j:=by simp only [decide_eq_false_iff_not,Zb,Za] at h1; omega
    subst hij2
    simp only [ZU] at e2
    obtain ⟨t,ht⟩ : ∃ t,t = i - m:=⟨_,rfl⟩
    obtain ⟨u,hu⟩ : ∃ u,u = a + t:=⟨_,rfl⟩
    have wt : IntKind.i64.wrap ((i : Int) - 1) = (u : Int):=by rw [wsub1 i (by omega) (by omega)]; congr 1; omega
    have c2:=Gm.cut_one g.hR (x:=x) (t:=t) (p1.elim (fun h=>.inl (by omega)) fun ⟨y,h3,h4⟩=>.inr ⟨y,by rw [← h3]; congr 1; omega,h4⟩) (p2.elim (fun h=>.inl (by omega)) fun ⟨y,h3,h4⟩=>.inr ⟨y,by rw [← h3]; congr 1,h4⟩)
    have hfin : l' = A ++ ((R.take t ++ x :: R.drop t) ++ B):=by rw [g.h',← Gm.srtD_of (l:=[x] ++ R) c2.2 c2.1]
    refine SW.while (A:=Nat × List Int) (fun p=>⟨pad 220 [.ar 0 0 n,.int .i64 a,.int .i64 m,.int .i64 b,.fn c [] [.fptr [.sl 1 (dl.map encI)] 0],.junk,.junk,.junk,.junk,.junk,.int .i64 i,.junk,.junk,.int .i64 p.1],[.arr true 1 (p.2.map encI)],[.ar 0 0 n,.eptr 0 1 0]⟩)
     (fun p=>b - p.1) (fun p=>p.2.length = n ∧ a ≤ p.1 ∧ p.1 ≤ u ∧ p.2 = A ++ (R.take (p.1 - a) ++ x :: (R.drop (p.1 - a) ++ B))) (a,l) [0] ⟨hln,Zl _,by show a ≤ u; omega,by show l = A ++ (R.take (a - a) ++ x :: (R.drop (a - a) ++ B)); rw [g.h,YF]; rfl⟩ ?_ ?_
    ·simp only [mvcgen_simp,method_specs_simp,seval]
    ·rintro ⟨k,z⟩ ⟨hzl,hka,hkt,hz⟩
     simp only at hzl hka hkt hz
     refine CW.sound ?_
     simp only [method_specs_simp,seval,hzl,wt]
     refine gB_split (fun h3=>?_) (fun h3=>?_)
     ·simp only [decide_eq_true_eq,Za] at h3
      obtain ⟨q,hq⟩ : ∃ q,q = k - a:=⟨_,rfl⟩
      rw [← hq] at hz
      obtain ⟨y,hy1,hy2,hy3⟩:=Gm.drop_next (l:=R) (i:=q) (by omega)
      obtain ⟨k1,hk1⟩ : ∃ k1,k1 = k + 1:=⟨_,rfl⟩
      have wk : IntKind.i64.wrap ((k : Int) + 1) = (k1 : Int):=by rw [hk1]; exact wadd1 k (by omega)
      have lq : (R.take q).length = q:=by rw [Zr]; omega
      have hz3 : z = (A ++ R.take q) ++ x :: ([] ++ y :: (R.drop (q + 1) ++ B)):=by rw [hz,hy2]; simp only [Zf,ZF,Zx]
      obtain ⟨g1,g2,g3,_⟩:=Gm.two_get (i:=k) (j:=k1) hz3 (by rw [Zi]; omega) (by simp only [Zi,ZK]; omega)
      simp only [method_specs_simp,seval,wk]
      refine ⟨by kernel_rfl,by omega,by omega,?_⟩
      simp only [method_specs_simp,seval,g1,g2,encI,wk]
      refine ⟨by omega,by omega,by omega,by omega,by omega,by omega,by omega,by rw [ZJ]; omega,?_⟩
      refine Again.mk (k1,(z.set k y).set k1 x) [0] ⟨by simp only [ZJ]; exact hzl,by show a ≤ k1; omega,by show k1 ≤ u; omega,?_⟩ (by show b - k1 < b - k; omega) ?_
      ·show (z.set k y).set k1 x = A ++ (R.take (k1 - a) ++ x :: (R.drop (k1 - a) ++ B))
       rw [g3,show k1 - a = q + 1 by omega,hy3]
       simp only [Zf,ZF,Zx]
      ·simp only [mvcgen_simp,method_specs_simp,seval]
     ·have : k = u:=by simp only [decide_eq_false_iff_not,Zb,Za] at h3; omega
      have e9 : z = l':=by
       rw [hz,hfin,show k - a = t by omega]
       simp only [Zf,ZF]
      refine LResY.mk [0] ?_
      simp only [mvcgen_simp,method_specs_simp,seval,e9,hln]
theorem n_sym2 {d : Int → Int} (c : FuncId) (dl : List Int) {l l' : List Int} {n a m b : Nat} {A L R B : List Int} (g : MG P d c dl l l' n a m b A L R B) (c1 : L.length ≠ 1) (c2 : R.length = 1) :
  LCon P 238 [.ar 0 0 n,.int .i64 a,.int .i64 m,.int .i64 b,.fn c [] [.fptr [.sl 1 (dl.map encI)] 0]] [.arr true 1 (l.map encI)] (.tup []) [.arr true 1 (l'.map encI)]:=by
  have bn:=g.bn
  have e1:=g.ha
  have e2:=g.hm
  have e3:=g.hb
  have e4:=g.hlt
  have w1 : IntKind.i64.wrap ((m : Int) - (a : Int)) = (L.length : Int):=by rw [wsub m a (by omega) (by omega)]; omega
  have w2 : IntKind.i64.wrap ((b : Int) - (m : Int)) = (R.length : Int):=by rw [wsub b m (by omega) (by omega)]; omega
  refine LCon.of (n:=220) (rs:=[]) (Is.fn Try.func238) rfl (Is.call Try.call238) Try.results238 Try.ntmps238 ?_
  simp only [method_specs_simp,seval,w1,w2]
  have d1 : ((L.length : Int) == 1) = false:=by rw [beq_eq_false_iff_ne]; omega
  have d2 : ((R.length : Int) == 1) = true:=by rw [c2]; rfl
  simp only [method_specs_simp,seval,d1,w2,d2]
  obtain ⟨x,rfl⟩ : ∃ x,R = [x]:=by
   match R,c2 with
   | [x],_=>exact ⟨x,rfl⟩
  have hln:=g.hn.symm
  have hlx : l[m]? = some x:=by
   rw [g.h,ZA (by omega),ZA (by omega),show m - A.length - L.length = 0 by omega]; rfl
  refine SW.while (A:=Nat × Nat) (fun p=>⟨pad 220 [.ar 0 0 n,.int .i64 a,.int .i64 m,.int .i64 b,.fn c [] [.fptr [.sl 1 (dl.map encI)] 0],.junk,.junk,.junk,.junk,.junk,.junk,.junk,.junk,.junk,.int .i64 p.1,.int .i64 p.2],[.arr true 1 (l.map encI)],[.ar 0 0 n,.eptr 0 1 0]⟩)
   (fun p=>p.2 - p.1) (fun p=>a ≤ p.1 ∧ p.1 ≤ p.2 ∧ p.2 ≤ m ∧ (p.1 = a ∨ ∃ y,L[p.1 - 1 - a]? = some y ∧ LtD d y x) ∧ (p.2 = m ∨ ∃ y,L[p.2 - a]? = some y ∧ LtD d x y)) (a,m) [0] ⟨Zl _,by show a ≤ m; omega,Zl _,.inl rfl,.inl rfl⟩ ?_ ?_
  ·simp only [mvcgen_simp,method_specs_simp,seval]
   try exact hln.symm
  ·rintro ⟨i,j⟩ ⟨hi,hij,hj,p1,p2⟩
   simp only at hi hij hj p1 p2
   refine CW.sound ?_
   simp only [method_specs_simp,seval,hln]
   refine gB_split (fun h1=>?_) (fun h1=>?_)
   ·simp only [decide_eq_true_eq,Za] at h1
    obtain ⟨k,hk⟩ : ∃ k,k = (i + j) / 2:=⟨_,rfl⟩
    have wk : IntKind.i64.wrap ((IntKind.u64.wrap (IntKind.i64.wrap ((i : Int) + (j : Int)))).fdiv (2 ^ min 1 IntKind.u64.bits)) = (k : Int):=by rw [hk]; exact mid_at i j (by omega)
    have wk1 : IntKind.i64.wrap ((k : Int) + 1) = ((k + 1 : Nat) : Int):=wadd1 k (by omega)
    obtain ⟨y,hy⟩ : ∃ y,L[k - a]? = some y:=⟨_,Zc (by omega)⟩
    have hly : l[k]? = some y:=by
     rw [g.h,ZA (by omega),Yl (by omega),← hy,e1]
    simp only [wk]
    refine ⟨by kernel_rfl,by omega,by omega,?_⟩
    simp only [method_specs_simp,seval,hly,hlx,encI,wk]
    refine ⟨by omega,by omega,?_⟩
    have hyL : y ∈ L:=ZG hy
    have hle:=g.cmp (x:=y) (y:=x) hyL (by simp)
    refine clY.conC (g.hc x (by simp) y (by simp [hyL])) rfl (by simp only [method_specs_simp]) ?_
    simp only [method_specs_simp,seval,hle,wk1]
    cases h2 : ltD d x y
    ·have hne : y ≠ x:=fun e=>by
      have hnd:=g.hs.nodup
      rw [YE] at hnd
      exact hnd.2.2 y hyL x (by simp) e
     simp only [method_specs_simp,seval,h2,wk1]
     refine Again.mk (k + 1,j) [0] ⟨by show a ≤ k + 1; omega,by show k + 1 ≤ j; omega,hj,.inr ⟨y,by show L[k + 1 - 1 - a]? = some y; rw [← hy,YU],Gm.ltD_tot (fun e=>hne e.symm) (by unfold LtD; rw [h2]; decide)⟩,p2⟩ (by show j - (k + 1) < j - i; omega) ?_
     simp only [mvcgen_simp,method_specs_simp,seval]
    ·simp only [method_specs_simp,seval,h2,wk1]
     refine Again.mk (i,k) [0] ⟨hi,by show i ≤ k; omega,by show k ≤ m; omega,p1,.inr ⟨y,hy,h2⟩⟩ (by show k - i < j - i; omega) ?_
     simp only [mvcgen_simp,method_specs_simp,seval]
   ·have hij2 : i = j:=by simp only [decide_eq_false_iff_not,Zb,Za] at h1; omega
    subst hij2
    obtain ⟨t,ht⟩ : ∃ t,t = i - a:=⟨_,rfl⟩
    have c3:=Gm.cut_one g.hL (x:=x) (t:=t) (p1.elim (fun h=>.inl (by omega)) fun ⟨y,h3,h4⟩=>.inr ⟨y,by rw [← h3]; congr 1; omega,h4⟩) (p2.elim (fun h=>.inl (by omega)) fun ⟨y,h3,h4⟩=>.inr ⟨y,by rw [← h3]; congr 1,h4⟩)
    have hfin : l' = A ++ ((L.take t ++ x :: L.drop t) ++ B):=by rw [g.h',← Gm.srtD_of (l:=L ++ [x]) (c3.2.trans (YT x L).symm) c3.1]
    refine SW.while (A:=Nat × List Int) (fun p=>⟨pad 220 [.ar 0 0 n,.int .i64 a,.int .i64 m,.int .i64 b,.fn c [] [.fptr [.sl 1 (dl.map encI)] 0],.junk,.junk,.junk,.junk,.junk,.junk,.junk,.junk,.junk,.int .i64 i,.junk,.junk,.int .i64 p.1],[.arr true 1 (p.2.map encI)],[.ar 0 0 n,.eptr 0 1 0]⟩)
     (fun p=>p.1) (fun p=>p.2.length = n ∧ i ≤ p.1 ∧ p.1 ≤ m ∧ p.2 = A ++ (L.take (p.1 - a) ++ x :: (L.drop (p.1 - a) ++ B))) (m,l) [0] ⟨hln,by show i ≤ m; omega,Zl _,by show l = A ++ (L.take (m - a) ++ x :: (L.drop (m - a) ++ B)); rw [g.h,ZD (by omega),Zm (by omega)]; rfl⟩ ?_ ?_
    ·simp only [mvcgen_simp,method_specs_simp,seval]
    ·rintro ⟨k,z⟩ ⟨hzl,hka,hkt,hz⟩
     simp only at hzl hka hkt hz
     refine CW.sound ?_
     simp only [method_specs_simp,seval,hzl]
     refine gB_split (fun h3=>?_) (fun h3=>?_)
     ·simp only [decide_eq_true_eq,gt_iff_lt,Za] at h3
      obtain ⟨k1,hk1⟩ : ∃ k1,k1 = k - 1:=⟨_,rfl⟩
      obtain ⟨q,hq⟩ : ∃ q,q = k1 - a:=⟨_,rfl⟩
      obtain ⟨y,hy1,hy2,hy3⟩:=Gm.drop_next (l:=L) (i:=q) (by omega)
      rw [show k - a = q + 1 by omega,hy3] at hz
      have wk : IntKind.i64.wrap ((k : Int) - 1) = (k1 : Int):=by rw [hk1]; exact wsub1 k (by omega) (by omega)
      have lq : (L.take q).length = q:=by rw [Zr]; omega
      have hz3 : z = (A ++ L.take q) ++ y :: ([] ++ x :: (L.drop (q + 1) ++ B)):=by rw [hz]; simp only [Zf,ZF,Zx]
      obtain ⟨g1,g2,_,g3⟩:=Gm.two_get (i:=k1) (j:=k) hz3 (by rw [Zi]; omega) (by simp only [Zi,ZK]; omega)
      simp only [method_specs_simp,seval,wk]
      refine ⟨by kernel_rfl,by omega,by omega,?_⟩
      simp only [method_specs_simp,seval,g1,g2,encI,wk]
      refine ⟨by omega,by omega,by omega,by omega,by omega,by omega,by omega,by rw [ZJ]; omega,?_⟩
      refine Again.mk (k1,(z.set k y).set k1 x) [0] ⟨by simp only [ZJ]; exact hzl,by show i ≤ k1; omega,by show k1 ≤ m; omega,?_⟩ (by show k1 < k; omega) ?_
      ·show (z.set k y).set k1 x = A ++ (L.take (k1 - a) ++ x :: (L.drop (k1 - a) ++ B))
       rw [g3,← hq,hy2]
       simp only [Zf,ZF,Zx]
      ·simp only [mvcgen_simp,method_specs_simp,seval]
     ·have : k = i:=by simp only [decide_eq_false_iff_not,Zb,gt_iff_lt,Za] at h3; omega
      have e9 : z = l':=by
       rw [hz,hfin,show k - a = t by omega]
       simp only [Zf,ZF]
      refine LResY.mk [0] ?_
      simp only [mvcgen_simp,method_specs_simp,seval,e9,hln]
end
def OrH (p q : Prop) : Prop:=p ∨ q
theorem OrH.el {p q r : Prop} (h : OrH p q) (h1 : p → r) (h2 : q → r) : r:=Or.elim h h1 h2
theorem orH {p q : Prop} (h : p ∨ q) : OrH p q:=h
structure Lin (p : Prop) : Prop where
 h : p
theorem sym_start {a b m mid nn x y : Nat} (e2 : m = a + x) (e3 : b = m + y) (hmid : mid = (a + b) / 2) (hnn : nn = mid + m) (l2 : 2 ≤ x) (r2 : 2 ≤ y) :
  ∃ lo hi pp,nn = pp + 1 ∧ a ≤ lo ∧ lo ≤ hi ∧ hi ≤ m ∧ hi ≤ mid ∧ mid ≤ lo + y ∧ OrH (lo = a) (mid = lo + y) ∧ OrH (hi = m) (hi = mid) ∧ OrH (mid < m ∧ nn = b + lo ∧ hi = mid) (¬ mid < m ∧ lo = a ∧ hi = m):=by
 by_cases h : mid < m
 ·exact ⟨nn - b,mid,nn - 1,by omega,by omega,by omega,by omega,by omega,by omega,orH (by omega),orH (by omega),.inl ⟨h,by omega,rfl⟩⟩
 ·exact ⟨a,m,nn - 1,by omega,by omega,by omega,by omega,by omega,by omega,orH (by omega),orH (by omega),.inr ⟨h,rfl,rfl⟩⟩
structure SI (d : Int → Int) (L R : List Int) (a mid lo hi i j : Nat) : Prop where
 h1 : lo ≤ i
 h2 : i ≤ j
 h3 : j ≤ hi
 p1 : i = lo ∨ ∃ x y,L[i - 1 - a]? = some x ∧ R[mid - i]? = some y ∧ LtD d x y
 p2 : j = hi ∨ ∃ x y,L[j - a]? = some x ∧ R[mid - 1 - j]? = some y ∧ LtD d y x
theorem sym_probe {P : Program} {d : Int → Int} {c : FuncId} {dl l l' : List Int} {n a m b : Nat} {A L R B : List Int} (g : MG P d c dl l l' n a m b A L R B) {mid nn pp lo hi i j : Nat}
  (hmid : mid = (a + b) / 2) (hnn : nn = mid + m) (hpp : nn = pp + 1) (f1 : a ≤ lo) (f3 : hi ≤ m) (f4 : hi ≤ mid) (f5 : mid ≤ lo + R.length) (hs : SI d L R a mid lo hi i j) (hij : i < j) :
  ∃ (k v : Nat) (x y : Int),IntKind.i64.wrap ((IntKind.u64.wrap (IntKind.i64.wrap ((i : Int) + (j : Int)))).fdiv (2 ^ min 1 IntKind.u64.bits)) = (k : Int) ∧ IntKind.i64.wrap ((k : Int) + 1) = ((k + 1 : Nat) : Int) ∧ IntKind.i64.wrap ((pp : Int) - (k : Int)) = (v : Int) ∧
   l[k]? = some x ∧ l[v]? = some y ∧ x ∈ L ∧ y ∈ R ∧ (0 : Int) ≤ k ∧ (k : Int) < n ∧ (0 : Int) ≤ v ∧ (v : Int) < n ∧ k - i < j - i ∧ j - (k + 1) < j - i ∧ (LtD d y x → SI d L R a mid lo hi i k) ∧ (¬ LtD d y x → SI d L R a mid lo hi (k + 1) j):=by
 obtain ⟨h1,h2,h3,p1,p2⟩:=hs
 have bn:=g.bn
 have e1:=g.ha
 have e2:=g.hm
 have e3:=g.hb
 have e4:=g.hlt
 obtain ⟨k,hk⟩ : ∃ k,k = (i + j) / 2:=⟨_,rfl⟩
 have k1 : i ≤ k:=by clear p1 p2; omega
 have k2 : k < j:=by clear p1 p2; omega
 obtain ⟨v,hv⟩ : ∃ v,pp = k + v:=⟨pp - k,by clear p1 p2; omega⟩
 obtain ⟨s,hs⟩ : ∃ s,k = a + s:=⟨k - a,by clear p1 p2; omega⟩
 obtain ⟨t,ht⟩ : ∃ t,mid = k + 1 + t:=⟨mid - 1 - k,by clear p1 p2; omega⟩
 have s1 : s < L.length:=by clear p1 p2; omega
 have t1 : t < R.length:=by clear p1 p2; omega
 have v1 : v = m + t:=by clear p1 p2; omega
 obtain ⟨x,hx⟩ : ∃ x,L[s]? = some x:=⟨_,Zc s1⟩
 obtain ⟨y,hy⟩ : ∃ y,R[t]? = some y:=⟨_,Zc t1⟩
 have hxL : x ∈ L:=ZG hx
 have hyR : y ∈ R:=ZG hy
 have hne : y ≠ x:=fun e=>by
  have hnd:=g.hs.nodup
  rw [YE] at hnd
  exact hnd.2.2 x hxL y hyR e.symm
 refine ⟨k,v,x,y,by rw [hk]; exact mid_at i j (by clear p1 p2; omega),wadd1 k (by clear p1 p2; omega),?_,?_,?_,hxL,hyR,by clear p1 p2; omega,by clear p1 p2; omega,by clear p1 p2; omega,by clear p1 p2; omega,by clear p1 p2; omega,by clear p1 p2; omega,fun h=>⟨h1,k1,by clear p1 p2; omega,p1,.inr ⟨x,y,?_,?_,h⟩⟩,fun h=>⟨by clear p1 p2; omega,k2,h3,.inr ⟨x,y,?_,?_,Gm.ltD_tot hne h⟩,p2⟩⟩
 ·rw [wsub pp k (by clear p1 p2; omega) (by clear p1 p2; omega)]; congr 1; clear p1 p2; omega
 ·rw [g.h,ZA (by clear p1 p2; omega),Yl (by clear p1 p2; omega),← hx]; congr 1; clear p1 p2; omega
 ·rw [g.h,ZA (by clear p1 p2; omega),ZA (by clear p1 p2; omega),Yl (by clear p1 p2; omega),← hy]; congr 1; clear p1 p2; omega
 ·rw [← hx]; congr 1; clear p1 p2; omega
 ·rw [← hy]; congr 1; clear p1 p2; omega
 ·rw [← hx]; congr 1; clear p1 p2; omega
 ·rw [← hy]; congr 1; clear p1 p2; omega
section
variable {P : Program} [Is P]
structure SP (P : Program) (c : FuncId) (dl l l' : List Int) (n a m b mid i en x y u t : Nat) (z0 z1 : List Int) : Prop where
 rot : u < x → 0 < t → LCon P 246 [.ar 0 0 n,.int .i64 i,.int .i64 m,.int .i64 en,.fn c [] [.fptr [.sl 1 (dl.map encI)] 0]] [.arr true 1 (l.map encI)] (.tup []) [.arr true 1 (z0.map encI)]
 rec1 : 0 < u → 0 < t → LCon P 238 [.ar 0 0 n,.int .i64 a,.int .i64 i,.int .i64 mid,.fn c [] [.fptr [.sl 1 (dl.map encI)] 0]] [.arr true 1 (z0.map encI)] (.tup []) [.arr true 1 (z1.map encI)]
 rec2 : u < x → t < y → LCon P 238 [.ar 0 0 n,.int .i64 mid,.int .i64 en,.int .i64 b,.fn c [] [.fptr [.sl 1 (dl.map encI)] 0]] [.arr true 1 (z1.map encI)] (.tup []) [.arr true 1 (l'.map encI)]
 no0 : ¬ (u < x ∧ 0 < t) → l = z0
 no1 : ¬ (0 < u ∧ 0 < t) → z0 = z1
 no2 : ¬ (u < x ∧ t < y) → z1 = l'
 c1 : decide ((i : Int) < (m : Int)) = decide (u < x)
 c2 : decide ((m : Int) < (en : Int)) = decide (0 < t)
 c3 : decide ((a : Int) < (i : Int)) = decide (0 < u)
 c4 : decide ((i : Int) < (mid : Int)) = decide (0 < t)
 c5 : decide ((mid : Int) < (en : Int)) = decide (u < x)
 c6 : decide ((en : Int) < (b : Int)) = decide (t < y)
theorem dec_of {p q : Prop} [Decidable p] [Decidable q] (h : p ↔ q) : decide p = decide q:=by
 by_cases hq : q
 ·rw [decide_eq_true hq,decide_eq_true (h.2 hq)]
 ·rw [decide_eq_false hq,decide_eq_false (fun hp=>hq (h.1 hp))]
theorem sym_parts {d : Int → Int} {c : FuncId} {dl l l' : List Int} {n a m b : Nat} {A L R B : List Int} (g : MG P d c dl l l' n a m b A L R B)
  (IH : ∀ {l l' : List Int} {n a m b : Nat} {A L' R' B : List Int},L'.length + R'.length < L.length + R.length → MG P d c dl l l' n a m b A L' R' B → LCon P 238 [.ar 0 0 n,.int .i64 a,.int .i64 m,.int .i64 b,.fn c [] [.fptr [.sl 1 (dl.map encI)] 0]] [.arr true 1 (l.map encI)] (.tup []) [.arr true 1 (l'.map encI)])
  {mid i en u t : Nat} (hi : i = a + u) (hm : mid = i + t) (he : en = m + t) (hu : u ≤ L.length) (ht : t ≤ R.length) (h1 : 0 < u + t) (h2 : u + t < L.length + R.length)
  (mg : srtD d (L.take u ++ R.take t) ++ srtD d (L.drop u ++ R.drop t) = srtD d (L ++ R)) : ∃ z0 z1,SP P c dl l l' n a m b mid i en L.length R.length u t z0 z1:=by
 have bn:=g.bn
 have e1:=g.ha
 have e2:=g.hm
 have e3:=g.hb
 have e4:=g.hlt
 have lu : (L.take u).length = u:=by rw [Zr]; omega
 have lt : (R.take t).length = t:=by rw [Zr]; omega
 have ld : (L.drop u).length + u = L.length:=by rw [Zq]; omega
 have le : (R.drop t).length + t = R.length:=by rw [Zq]; omega
 have tL : L.take u ++ L.drop u = L:=ZE u L
 have tR : R.take t ++ R.drop t = R:=ZE t R
 obtain ⟨z0,hz0⟩ : ∃ z,z = A ++ (L.take u ++ (R.take t ++ (L.drop u ++ (R.drop t ++ B)))):=⟨_,rfl⟩
 obtain ⟨z1,hz1⟩ : ∃ z,z = A ++ (srtD d (L.take u ++ R.take t) ++ (L.drop u ++ (R.drop t ++ B))):=⟨_,rfl⟩
 have hl2 : l = (A ++ L.take u) ++ (L.drop u ++ (R.take t ++ (R.drop t ++ B))):=by
  rw [g.h]
  conv=>lhs; rw [← tL,← tR]
  simp only [Zf]
 have hl3 : l' = (A ++ srtD d (L.take u ++ R.take t)) ++ (srtD d (L.drop u ++ R.drop t) ++ B):=by rw [g.h',← mg]; simp only [Zf]
 have n0 : n = z0.length:=by rw [hz0,g.hn,hl2]; simp only [Zi]; omega
 have n1 : n = z1.length:=by rw [hz1,n0,hz0]; simp only [Zi,Gm.srtD_len]; omega
 have sub1 : (L.take u ++ R.take t).Sublist (L ++ R):=List.Sublist.append (ZB u L) (ZB t R)
 have sub2 : (L.drop u ++ R.drop t).Sublist (L ++ R):=List.Sublist.append (ZC u L) (ZC t R)
 have nil1 : ¬ u < L.length → L.drop u = []:=fun h=>Zm (by omega)
 have nil2 : ¬ 0 < t → R.take t = []:=fun h=>by rw [show t = 0 by omega]; rfl
 have nil3 : ¬ 0 < u → L.take u = []:=fun h=>by rw [show u = 0 by omega]; rfl
 have nil4 : ¬ t < R.length → R.drop t = []:=fun h=>Zm (by omega)
 have si1 : srtD d (L.take u) = L.take u:=Gm.srtD_id (g.hL.sublist (ZB _ _))
 have si2 : srtD d (R.take t) = R.take t:=Gm.srtD_id (g.hR.sublist (ZB _ _))
 have si3 : srtD d (L.drop u) = L.drop u:=Gm.srtD_id (g.hL.sublist (ZC _ _))
 have si4 : srtD d (R.drop t) = R.drop t:=Gm.srtD_id (g.hR.sublist (ZC _ _))
 refine ⟨z0,z1,fun r1 r2=>?_,fun r1 r2=>?_,fun r1 r2=>?_,fun h=>?_,fun h=>?_,fun h=>?_,dec_of ?_,dec_of ?_,dec_of ?_,dec_of ?_,dec_of ?_,dec_of ?_⟩
 ·exact n_rotate c dl hl2 (by rw [hz0]; simp only [Zf]) (by rw [Zi]; omega) (by omega) (by omega) (fun e=>by rw [e] at ld; simp only [ZK] at ld; omega) (fun e=>by rw [e] at lt; simp only [ZK] at lt; omega) g.hn e4
 ·exact IH (L':=L.take u) (R':=R.take t) (by omega) ⟨hz0,hz1,e1,by omega,by omega,by omega,by omega,g.hL.sublist (ZB _ _),g.hR.sublist (ZB _ _),g.hs.sub sub1,fun x hx y hy=>g.hc x (sub1.subset hx) y (sub1.subset hy),n0,e4⟩
 ·exact IH (A:=A ++ srtD d (L.take u ++ R.take t)) (L':=L.drop u) (R':=R.drop t) (B:=B) (by omega) ⟨by rw [hz1]; simp only [Zf],hl3,by rw [Zi,Gm.srtD_len,Zi]; omega,by omega,by omega,by omega,by omega,g.hL.sublist (ZC _ _),g.hR.sublist (ZC _ _),g.hs.sub sub2,fun x hx y hy=>g.hc x (sub2.subset hx) y (sub2.subset hy),n1,e4⟩
 ·rw [hl2,hz0]
  by_cases h5 : u < L.length
  ·rw [nil2 fun h6=>h ⟨h5,h6⟩]
   simp only [Zf,Zx]
  ·rw [nil1 h5]
   simp only [Zf,Zx]
 ·rw [hz0,hz1]
  by_cases h5 : 0 < u
  ·rw [nil2 fun h6=>h ⟨h5,h6⟩,ZH,si1,Zx]
  ·rw [nil3 h5,Zx,Zx,si2]
 ·rw [hz1,hl3]
  by_cases h5 : u < L.length
  ·rw [nil4 fun h6=>h ⟨h5,h6⟩,ZH,si3]
   simp only [Zf,Zx]
  ·rw [nil1 h5]
   simp only [Zx]
   rw [si4]
   simp only [Zf]
 all_goals (rw [Za]; omega)
theorem sym_done {d : Int → Int} {c : FuncId} {dl l l' : List Int} {n a m b : Nat} {A L R B : List Int} (g : MG P d c dl l l' n a m b A L R B)
  (IH : ∀ {l l' : List Int} {n a m b : Nat} {A L' R' B : List Int},L'.length + R'.length < L.length + R.length → MG P d c dl l l' n a m b A L' R' B → LCon P 238 [.ar 0 0 n,.int .i64 a,.int .i64 m,.int .i64 b,.fn c [] [.fptr [.sl 1 (dl.map encI)] 0]] [.arr true 1 (l.map encI)] (.tup []) [.arr true 1 (l'.map encI)])
  {mid nn lo hi i : Nat} (hmid : mid = (a + b) / 2) (hnn : nn = mid + m) (l2 : 2 ≤ L.length) (r2 : 2 ≤ R.length) (f1 : a ≤ lo) (f3 : hi ≤ m) (f4 : hi ≤ mid) (f5 : mid ≤ lo + R.length) (f6 : OrH (lo = a) (mid = lo + R.length)) (f7 : OrH (hi = m) (hi = mid)) (hs : SI d L R a mid lo hi i i) :
  ∃ (en u t : Nat) (z0 z1 : List Int),IntKind.i64.wrap ((nn : Int) - (i : Int)) = (en : Int) ∧ SP P c dl l l' n a m b mid i en L.length R.length u t z0 z1:=by
 obtain ⟨h1,h2,h3,p1,p2⟩:=hs
 have bn:=g.bn
 have e2:=g.hm
 have e3:=g.hb
 have e4:=g.hlt
 obtain ⟨u,hu⟩ : ∃ u,i = a + u:=⟨i - a,by clear p1 p2; omega⟩
 obtain ⟨t,ht⟩ : ∃ t,mid = i + t:=⟨mid - i,by clear p1 p2; omega⟩
 have mg:=Gm.merged g.hL g.hR (s:=u) (t:=t) g.hs
  (p1.elim (fun h=>f6.el (fun h5=>.inl (by clear p2; omega)) fun h5=>.inr (.inl (by clear p2; omega))) fun ⟨x,y,h3,h4,h5⟩=>.inr (.inr ⟨x,y,by rw [← h3]; congr 1; clear p2; omega,by rw [← h4]; congr 1; clear p2; omega,h5⟩))
  (p2.elim (fun h=>f7.el (fun h5=>.inl (by clear p1; omega)) fun h5=>.inr (.inl (by clear p1; omega))) fun ⟨x,y,h3,h4,h5⟩=>.inr (.inr ⟨x,y,by rw [← h3]; congr 1; clear p1; omega,by rw [← h4]; congr 1; clear p1; omega,h5⟩))
 clear p1 p2
 obtain ⟨z0,z1,h⟩:=sym_parts g IH (mid:=mid) (i:=i) (en:=m + t) hu ht rfl (by omega) (by omega) (by omega) (by omega) mg
 exact ⟨m + t,u,t,z0,z1,by rw [wsub nn i (by omega) (by omega)]; congr 1; omega,h⟩
theorem n_symG {d : Int → Int} (c : FuncId) (dl : List Int) {l l' : List Int} {n a m b : Nat} {A L R B : List Int} (g : MG P d c dl l l' n a m b A L R B) (c1 : L.length ≠ 1) (c2 : R.length ≠ 1)
  (IH : ∀ {l l' : List Int} {n a m b : Nat} {A L' R' B : List Int},L'.length + R'.length < L.length + R.length → MG P d c dl l l' n a m b A L' R' B → LCon P 238 [.ar 0 0 n,.int .i64 a,.int .i64 m,.int .i64 b,.fn c [] [.fptr [.sl 1 (dl.map encI)] 0]] [.arr true 1 (l.map encI)] (.tup []) [.arr true 1 (l'.map encI)]) :
  LCon P 238 [.ar 0 0 n,.int .i64 a,.int .i64 m,.int .i64 b,.fn c [] [.fptr [.sl 1 (dl.map encI)] 0]] [.arr true 1 (l.map encI)] (.tup []) [.arr true 1 (l'.map encI)]:=by
 have w1 : IntKind.i64.wrap ((m : Int) - (a : Int)) = (L.length : Int):=by have:=g.hm; have:=g.hb; have:=g.bn; have:=g.hlt; rw [wsub m a (by omega) (by omega)]; omega
 have w2 : IntKind.i64.wrap ((b : Int) - (m : Int)) = (R.length : Int):=by have:=g.hm; have:=g.hb; have:=g.bn; have:=g.hlt; rw [wsub b m (by omega) (by omega)]; omega
 have l2 : 2 ≤ L.length:=by have:=g.l1; omega
 have r2 : 2 ≤ R.length:=by have:=g.r1; omega
 have d1 : ((L.length : Int) == 1) = false:=by rw [beq_eq_false_iff_ne]; omega
 have d2 : ((R.length : Int) == 1) = false:=by rw [beq_eq_false_iff_ne]; omega
 have hln:=g.hn.symm
 obtain ⟨mid,hmid⟩ : ∃ mid,mid = (a + b) / 2:=⟨_,rfl⟩
 obtain ⟨nn,hnn⟩ : ∃ nn,nn = mid + m:=⟨_,rfl⟩
 have wm : IntKind.i64.wrap ((IntKind.u64.wrap (IntKind.i64.wrap ((a : Int) + (b : Int)))).fdiv (2 ^ min 1 IntKind.u64.bits)) = (mid : Int):=by have:=g.hm; have:=g.hb; have:=g.bn; have:=g.hlt; rw [hmid]; exact mid_at a b (by omega)
 have wnn : IntKind.i64.wrap ((mid : Int) + (m : Int)) = (nn : Int):=by have:=g.hm; have:=g.hb; have:=g.bn; have:=g.hlt; rw [hnn]; exact wadd mid m (by omega)
 obtain ⟨lo,hi,pp,hpp,f1,f2,f3,f4,f5,f6,f7,f8⟩:=sym_start g.hm g.hb hmid hnn l2 r2
 have wp : IntKind.i64.wrap ((nn : Int) - 1) = (pp : Int):=by have:=g.hm; have:=g.hb; have:=g.bn; have:=g.hlt; rw [wsub1 nn (by omega) (by omega)]; congr 1; omega
 have wl : nn = b + lo → IntKind.i64.wrap ((nn : Int) - (b : Int)) = (lo : Int):=fun h=>by have:=g.hm; have:=g.hb; have:=g.bn; have:=g.hlt; rw [wsub nn b (by omega) (by omega)]; congr 1; omega
 refine LCon.of (n:=220) (rs:=[]) (Is.fn Try.func238) rfl (Is.call Try.call238) Try.results238 Try.ntmps238 ?_
 simp only [method_specs_simp,seval,w1,w2]
 simp only [method_specs_simp,seval,d1,w2,d2,wm,wnn]
 refine gB_split (fun h1=>?k1) (fun h1=>?k2)
 case' k1 =>
  simp only [decide_eq_true_eq,gt_iff_lt,Za] at h1
  obtain ⟨q1,q2⟩ : nn = b + lo ∧ hi = mid:=f8.el (fun q=>q.2) (fun q=>absurd h1 q.1)
  have q1:=wl q1
  rw [q1,wp]
  have q3 : (mid : Int) = (hi : Int):=by rw [q2]
 case' k2 =>
  simp only [decide_eq_false_iff_not,Zb,gt_iff_lt,Za] at h1
  obtain ⟨q1,q2⟩ : lo = a ∧ hi = m:=f8.el (fun q=>absurd q.1 h1) (fun q=>q.2)
  have q3 : (a : Int) = (lo : Int) ∧ (m : Int) = (hi : Int):=⟨by rw [q1],by rw [q2]⟩
  rw [wp]
 all_goals
  refine SW.while (A:=Nat × Nat) (fun p=>⟨pad 220 [.ar 0 0 n,.int .i64 a,.int .i64 m,.int .i64 b,.fn c [] [.fptr [.sl 1 (dl.map encI)] 0],.junk,.junk,.junk,.junk,.junk,.junk,.junk,.junk,.junk,.junk,.junk,.junk,.junk,.int .i64 mid,.int .i64 nn,.int .i64 p.1,.int .i64 p.2,.int .i64 pp],[.arr true 1 (l.map encI)],[.ar 0 0 n,.eptr 0 1 0]⟩)
   (fun p=>p.2 - p.1) (fun p=>SI d L R a mid lo hi p.1 p.2) (lo,hi) [0] ⟨Zl _,f2,Zl _,.inl rfl,.inl rfl⟩ ?_ ?_
  ·simp only [mvcgen_simp,method_specs_simp,seval]
   first | exact ⟨trivial,hln.symm⟩ | exact ⟨trivial,trivial,hln.symm⟩ | exact q3 | exact ⟨q3,hln.symm⟩ | exact ⟨q3.1,q3.2,hln.symm⟩ | simp only [q1,q2,hln,and_self]
  ·rintro ⟨i,j⟩ hs
   simp only at hs
   refine CW.sound ?_
   simp only [method_specs_simp,seval,hln]
   refine gB_split (fun h2=>?_) (fun h2=>?_)
   ·simp only [decide_eq_true_eq,Za] at h2
    obtain ⟨k,v,x,y,wk,wk1,wv,hlx,hly,hxL,hyR,b1,b2,b3,b4,m1,m2,s1,s2⟩:=sym_probe g hmid hnn hpp f1 f3 f4 f5 hs h2
    have hle:=g.cmp (x:=x) (y:=y) hxL hyR
    simp only [wk,wv]
    refine ⟨by kernel_rfl,b3,b4,?_⟩
    simp only [method_specs_simp,seval,hlx,hly,encI,wk,wv]
    refine ⟨b1,b2,?_⟩
    refine clY.conC (g.hc y (by simp [hyR]) x (by simp [hxL])) rfl (by simp only [method_specs_simp]) ?_
    simp only [method_specs_simp,seval,hle,wk1]
    cases h3 : ltD d y x
    ·simp only [method_specs_simp,seval,h3,wk1]
     refine Again.mk (k + 1,j) [0] (s2 (by unfold LtD; rw [h3]; decide)) m2 ?_
     simp only [mvcgen_simp,method_specs_simp,seval]
    ·simp only [method_specs_simp,seval,h3,wk1]
     refine Again.mk (i,k) [0] (s1 h3) m1 ?_
     simp only [mvcgen_simp,method_specs_simp,seval]
   ·have hij2 : i = j:=by have:=hs.h2; simp only [decide_eq_false_iff_not,Zb,Za] at h2; omega
    subst hij2
    obtain ⟨en,u,t,z0,z1,wen,sp⟩:=sym_done g IH hmid hnn l2 r2 f1 f3 f4 f5 f6 f7 hs
    have dt : ∀ {p : Prop} [Decidable p],p → decide p = true:=fun h=>decide_eq_true h
    have df : ∀ {p : Prop} [Decidable p],¬ p → decide p = false:=fun h=>decide_eq_false h
    simp only [method_specs_simp,seval,wen,sp.c1,sp.c2,sp.c3,sp.c4,sp.c5,sp.c6]
    by_cases k1 : u < L.length
    ·by_cases k2 : 0 < t
     ·simp only [method_specs_simp,seval,wen,sp.c1,sp.c2,sp.c3,sp.c4,sp.c5,sp.c6,dt k1,dt k2]
      refine clY.live [0] [] (sp.rot k1 k2) ?_ (by simp) ?_
      ·simp only [mvcgen_simp,method_specs_simp,seval,wen,sp.c1,sp.c2,sp.c3,sp.c4,sp.c5,sp.c6]
      simp only [method_specs_simp,seval,wen,sp.c1,sp.c2,sp.c3,sp.c4,sp.c5,sp.c6,dt k1,dt k2]
      by_cases k3 : 0 < u
      ·simp only [method_specs_simp,seval,wen,sp.c1,sp.c2,sp.c3,sp.c4,sp.c5,sp.c6,dt k3]
       refine clY.live [0] [] (sp.rec1 k3 k2) ?_ (by simp) ?_
       ·simp only [mvcgen_simp,method_specs_simp,seval,wen,sp.c1,sp.c2,sp.c3,sp.c4,sp.c5,sp.c6]
       simp only [method_specs_simp,seval,wen,sp.c1,sp.c2,sp.c3,sp.c4,sp.c5,sp.c6,dt k1]
       by_cases k4 : t < R.length
       ·simp only [method_specs_simp,seval,wen,sp.c1,sp.c2,sp.c3,sp.c4,sp.c5,sp.c6,dt k4]
        refine clY.live [0] [] (sp.rec2 k1 k4) ?_ (by simp) ?_
        ·simp only [mvcgen_simp,method_specs_simp,seval,wen,sp.c1,sp.c2,sp.c3,sp.c4,sp.c5,sp.c6]
        simp only [method_specs_simp,seval,wen,sp.c1,sp.c2,sp.c3,sp.c4,sp.c5,sp.c6]
        refine LResY.mk [0] ?_
        simp only [mvcgen_simp,method_specs_simp,seval,wen,sp.c1,sp.c2,sp.c3,sp.c4,sp.c5,sp.c6,hln]
       ·simp only [method_specs_simp,seval,wen,sp.c1,sp.c2,sp.c3,sp.c4,sp.c5,sp.c6,df k4]
        refine LResY.mk [0] ?_
        simp only [mvcgen_simp,method_specs_simp,seval,wen,sp.c1,sp.c2,sp.c3,sp.c4,sp.c5,sp.c6,hln,sp.no2 fun h=>k4 h.2]
      ·have e01:=sp.no1 fun h=>k3 h.1
       simp only [method_specs_simp,seval,wen,sp.c1,sp.c2,sp.c3,sp.c4,sp.c5,sp.c6,df k3,e01]
       by_cases k4 : t < R.length
       ·simp only [method_specs_simp,seval,wen,sp.c1,sp.c2,sp.c3,sp.c4,sp.c5,sp.c6,dt k4]
        refine clY.live [0] [] (sp.rec2 k1 k4) ?_ (by simp) ?_
        ·simp only [mvcgen_simp,method_specs_simp,seval,wen,sp.c1,sp.c2,sp.c3,sp.c4,sp.c5,sp.c6]
        simp only [method_specs_simp,seval,wen,sp.c1,sp.c2,sp.c3,sp.c4,sp.c5,sp.c6]
        refine LResY.mk [0] ?_
        simp only [mvcgen_simp,method_specs_simp,seval,wen,sp.c1,sp.c2,sp.c3,sp.c4,sp.c5,sp.c6,hln]
       ·simp only [method_specs_simp,seval,wen,sp.c1,sp.c2,sp.c3,sp.c4,sp.c5,sp.c6,df k4]
        refine LResY.mk [0] ?_
        simp only [mvcgen_simp,method_specs_simp,seval,wen,sp.c1,sp.c2,sp.c3,sp.c4,sp.c5,sp.c6,hln,sp.no2 fun h=>k4 h.2]
     ·have e01:=(sp.no0 fun h=>k2 h.2).trans (sp.no1 fun h=>k2 h.2)
      simp only [method_specs_simp,seval,wen,sp.c1,sp.c2,sp.c3,sp.c4,sp.c5,sp.c6,dt k1,df k2,e01]
      by_cases k3 : 0 < u
      ·simp only [method_specs_simp,seval,wen,sp.c1,sp.c2,sp.c3,sp.c4,sp.c5,sp.c6,dt k3]
       by_cases k4 : t < R.length
       ·simp only [method_specs_simp,seval,wen,sp.c1,sp.c2,sp.c3,sp.c4,sp.c5,sp.c6,dt k4]
        refine clY.live [0] [] (sp.rec2 k1 k4) ?_ (by simp) ?_
        ·simp only [mvcgen_simp,method_specs_simp,seval,wen,sp.c1,sp.c2,sp.c3,sp.c4,sp.c5,sp.c6]
        simp only [method_specs_simp,seval,wen,sp.c1,sp.c2,sp.c3,sp.c4,sp.c5,sp.c6]
        refine LResY.mk [0] ?_
        simp only [mvcgen_simp,method_specs_simp,seval,wen,sp.c1,sp.c2,sp.c3,sp.c4,sp.c5,sp.c6,hln]
       ·simp only [method_specs_simp,seval,wen,sp.c1,sp.c2,sp.c3,sp.c4,sp.c5,sp.c6,df k4]
        refine LResY.mk [0] ?_
        simp only [mvcgen_simp,method_specs_simp,seval,wen,sp.c1,sp.c2,sp.c3,sp.c4,sp.c5,sp.c6,hln,sp.no2 fun h=>k4 h.2]
      ·simp only [method_specs_simp,seval,wen,sp.c1,sp.c2,sp.c3,sp.c4,sp.c5,sp.c6,df k3]
       by_cases k4 : t < R.length
       ·simp only [method_specs_simp,seval,wen,sp.c1,sp.c2,sp.c3,sp.c4,sp.c5,sp.c6,dt k4]
        refine clY.live [0] [] (sp.rec2 k1 k4) ?_ (by simp) ?_
        ·simp only [mvcgen_simp,method_specs_simp,seval,wen,sp.c1,sp.c2,sp.c3,sp.c4,sp.c5,sp.c6]
        simp only [method_specs_simp,seval,wen,sp.c1,sp.c2,sp.c3,sp.c4,sp.c5,sp.c6]
        refine LResY.mk [0] ?_
        simp only [mvcgen_simp,method_specs_simp,seval,wen,sp.c1,sp.c2,sp.c3,sp.c4,sp.c5,sp.c6,hln]
       ·simp only [method_specs_simp,seval,wen,sp.c1,sp.c2,sp.c3,sp.c4,sp.c5,sp.c6,df k4]
        refine LResY.mk [0] ?_
        simp only [mvcgen_simp,method_specs_simp,seval,wen,sp.c1,sp.c2,sp.c3,sp.c4,sp.c5,sp.c6,hln,sp.no2 fun h=>k4 h.2]
    ·have e0:=sp.no0 fun h=>k1 h.1
     have e2:=sp.no2 fun h=>k1 h.1
     simp only [method_specs_simp,seval,wen,sp.c1,sp.c2,sp.c3,sp.c4,sp.c5,sp.c6,df k1,e0]
     by_cases k2 : 0 < t
     ·simp only [method_specs_simp,seval,wen,sp.c1,sp.c2,sp.c3,sp.c4,sp.c5,sp.c6,dt k2]
      by_cases k3 : 0 < u
      ·simp only [method_specs_simp,seval,wen,sp.c1,sp.c2,sp.c3,sp.c4,sp.c5,sp.c6,dt k3]
       refine clY.live [0] [] (sp.rec1 k3 k2) ?_ (by simp) ?_
       ·simp only [mvcgen_simp,method_specs_simp,seval,wen,sp.c1,sp.c2,sp.c3,sp.c4,sp.c5,sp.c6]
       simp only [method_specs_simp,seval,wen,sp.c1,sp.c2,sp.c3,sp.c4,sp.c5,sp.c6,df k1]
       refine LResY.mk [0] ?_
       simp only [mvcgen_simp,method_specs_simp,seval,wen,sp.c1,sp.c2,sp.c3,sp.c4,sp.c5,sp.c6,hln,e2]
      ·simp only [method_specs_simp,seval,wen,sp.c1,sp.c2,sp.c3,sp.c4,sp.c5,sp.c6,df k3]
       refine LResY.mk [0] ?_
       simp only [mvcgen_simp,method_specs_simp,seval,wen,sp.c1,sp.c2,sp.c3,sp.c4,sp.c5,sp.c6,hln,sp.no1 fun h=>k3 h.1,e2]
     ·simp only [method_specs_simp,seval,wen,sp.c1,sp.c2,sp.c3,sp.c4,sp.c5,sp.c6,df k2]
      by_cases k3 : 0 < u
      ·simp only [method_specs_simp,seval,wen,sp.c1,sp.c2,sp.c3,sp.c4,sp.c5,sp.c6,dt k3]
       refine LResY.mk [0] ?_
       simp only [mvcgen_simp,method_specs_simp,seval,wen,sp.c1,sp.c2,sp.c3,sp.c4,sp.c5,sp.c6,hln,sp.no1 fun h=>k2 h.2,e2]
      ·simp only [method_specs_simp,seval,wen,sp.c1,sp.c2,sp.c3,sp.c4,sp.c5,sp.c6,df k3]
       refine LResY.mk [0] ?_
       simp only [mvcgen_simp,method_specs_simp,seval,wen,sp.c1,sp.c2,sp.c3,sp.c4,sp.c5,sp.c6,hln,sp.no1 fun h=>k2 h.2,e2]
theorem n_symMerge {d : Int → Int} (c : FuncId) (dl : List Int) : ∀ (s : Nat) {l l' : List Int} {n a m b : Nat} {A L R B : List Int},L.length + R.length ≤ s → MG P d c dl l l' n a m b A L R B →
  LCon P 238 [.ar 0 0 n,.int .i64 a,.int .i64 m,.int .i64 b,.fn c [] [.fptr [.sl 1 (dl.map encI)] 0]] [.arr true 1 (l.map encI)] (.tup []) [.arr true 1 (l'.map encI)]
 | 0,l,l',n,a,m,b,A,L,R,B,hz,g=>by have:=g.l1; omega
 | s + 1,l,l',n,a,m,b,A,L,R,B,hz,g=>by
   by_cases c1 : L.length = 1
   ·exact n_sym1 c dl g c1
   ·by_cases c2 : R.length = 1
    ·exact n_sym2 c dl g c1 c2
    ·exact n_symG c dl g c1 c2 fun h g'=>n_symMerge c dl s (by omega) g'
end
section
variable {P : Program} [Is P]
theorem n_stable {d : Int → Int} (c : FuncId) (dl : List Int) {l : List Int} {n : Nat} (hc : ∀ x ∈ l,∀ y ∈ l,Con P c [.int .i64 x,.int .i64 y,.fptr [.sl 1 (dl.map encI)] 0] (.int .i64 (cmpI (d x) (d y)))) (hs : StD d l) (hn : l.length = n) (hlt : n < 2 ^ 58) :
  LCon P 221 [.ar 0 0 n,.int .i64 n,.fn c [] [.fptr [.sl 1 (dl.map encI)] 0]] [.arr true 1 (l.map encI)] (.tup []) [.arr true 1 ((srtD d l).map encI)]:=by
 refine LCon.of (n:=63) (rs:=[]) (Is.fn Try.func221) rfl (Is.call Try.call221) Try.results221 Try.ntmps221 ?_
 simp only [method_specs_simp,seval]
 refine SW.while (A:=Nat × Nat × List Int) (fun p=>⟨pad 63 [.ar 0 0 n,.int .i64 n,.fn c [] [.fptr [.sl 1 (dl.map encI)] 0],.junk,.junk,.junk,.int .i64 20,.int .i64 p.1,.int .i64 p.2.1],[.arr true 1 (p.2.2.map encI)],[.ar 0 0 n,.eptr 0 1 0]⟩)
  (fun p=>n + 20 - p.1) (fun p=>p.2.1 = p.1 + 20 ∧ ∃ Q,Gm.Stg0 d l 20 n p.1 Q p.2.2) (0,20,l) [0] ⟨rfl,[],rfl,Zh _,hn,rfl,rfl⟩ ?_ ?_
 ·simp only [mvcgen_simp,method_specs_simp,seval]
  exact hn.symm
 ·rintro ⟨a,b,z⟩ ⟨hb,Q,sg⟩
  simp only at hb sg
  have hzl:=sg.len
  refine CW.sound ?_
  simp only [method_specs_simp,seval,hzl]
  refine gB_split (fun h=>?_) (fun h=>?_)
  ·simp only [decide_eq_true_eq,Ym] at h
   obtain ⟨X,B,e1,e2,e3,e4,sg2⟩:=sg.round (by decide) (by omega) hs
   refine clY.live [0] [] (n_insert (n:=n) (a:=a) (b:=b) (A:=Q) (X:=X) (B:=B) (l:=z) c dl (fun x hx y hy=>hc x (e4 x hx) y (e4 y hy)) e1 rfl sg.hP.symm (by omega) e3 hzl.symm (by omega)) ?_ (by simp) ?_
   ·simp only [mvcgen_simp,method_specs_simp,seval]
   have wb : IntKind.i64.wrap ((b : Int) + 20) = ((b + 20 : Nat) : Int):=wadd b 20 (by omega)
   simp only [method_specs_simp,seval,wb]
   refine Again.mk (b,b + 20,Q ++ (srtD d X ++ B)) [0] ⟨rfl,_,by rw [hb]; exact sg2⟩ (by simp only; omega) ?_
   simp only [mvcgen_simp,method_specs_simp,seval]
  ·simp only [decide_eq_false_iff_not,Zb,Ym] at h
   obtain ⟨X,e1,e2,e3,e4,e5⟩:=sg.last (by omega) hs
   refine clY.live [0] [] (n_insert (n:=n) (a:=a) (b:=n) (A:=Q) (X:=X) (B:=[]) (l:=z) c dl (fun x hx y hy=>hc x (e4 x hx) y (e4 y hy)) e1 rfl sg.hP.symm (by omega) e3 hzl.symm (by omega)) ?_ (by simp) ?_
   ·simp only [mvcgen_simp,method_specs_simp,seval]
   rw [← e5]
   refine SW.while (A:=Nat) (fun bs=>⟨pad 63 [.ar 0 0 n,.int .i64 n,.fn c [] [.fptr [.sl 1 (dl.map encI)] 0],.junk,.junk,.junk,.int .i64 bs],[.arr true 1 ((Gm.blk d bs l).map encI)],[.ar 0 0 n,.eptr 0 1 0]⟩)
    (fun bs=>n - bs) (fun bs=>20 ≤ bs ∧ bs < 2 ^ 59) 20 [0] ⟨Zl _,by decide⟩ ?_ ?_
   ·simp only [mvcgen_simp,method_specs_simp,seval]
   ·rintro bs ⟨h20,hbs⟩
    refine CW.sound ?_
    simp only [method_specs_simp,seval]
    refine gB_split (fun h1=>?_) (fun h1=>?_)
    ·simp only [decide_eq_true_eq,Za] at h1
     have w2 : IntKind.i64.wrap (2 * (bs : Int)) = ((2 * bs : Nat) : Int):=by rw [wrap_id (by omega) (by omega)]; omega
     obtain ⟨b2,hb2⟩ : ∃ b2,b2 = 2 * bs:=⟨_,rfl⟩
     rw [w2,← hb2]
     refine SW.while (A:=Nat × Nat × List Int) (fun p=>⟨pad 63 [.ar 0 0 n,.int .i64 n,.fn c [] [.fptr [.sl 1 (dl.map encI)] 0],.junk,.junk,.junk,.int .i64 bs,.int .i64 p.1,.int .i64 p.2.1],[.arr true 1 (p.2.2.map encI)],[.ar 0 0 n,.eptr 0 1 0]⟩)
      (fun p=>n + b2 - p.1) (fun p=>p.2.1 = p.1 + b2 ∧ ∃ Q,Gm.Stg d l bs (2 * bs) n p.1 Q p.2.2) (0,b2,Gm.blk d bs l) [0] ⟨by simp only; omega,[],Gm.Stg.start hn⟩ ?_ ?_
     ·simp only [mvcgen_simp,method_specs_simp,seval]
     ·rintro ⟨a,b,z⟩ ⟨hb,Q,sg⟩
      simp only at hb sg
      have hzl:=sg.len
      have ha:=sg.ha
      have wm : IntKind.i64.wrap ((a : Int) + (bs : Int)) = ((a + bs : Nat) : Int):=wadd a bs (by omega)
      obtain ⟨m,hm⟩ : ∃ m,m = a + bs:=⟨_,rfl⟩
      rw [← hm] at wm
      refine CW.sound ?_
      simp only [method_specs_simp,seval,hzl]
      refine gB_split (fun h2=>?_) (fun h2=>?_)
      ·simp only [decide_eq_true_eq,Ym] at h2
       obtain ⟨L,R,B,z',e1,e2,e3,e4,e5,e6,e7,e8,sg2⟩:=sg.round (by omega) (by omega) hs
       have hmg : MG P d c dl z z' n a m b Q L R B:=⟨e1,e2,sg.hP.symm,by omega,by omega,by omega,by omega,e5,e6,e7,fun x hx y hy=>hc x (e8 x hx) y (e8 y hy),hzl.symm,by omega⟩
       simp only [method_specs_simp,seval,wm]
       refine clY.live [0] [] (n_symMerge c dl _ (Zl _) hmg) ?_ (by simp) ?_
       ·simp only [mvcgen_simp,method_specs_simp,seval]
       have wb : IntKind.i64.wrap ((b : Int) + IntKind.i64.wrap (2 * (bs : Int))) = ((b + b2 : Nat) : Int):=by rw [w2,← hb2]; exact wadd b b2 (by omega)
       obtain ⟨bb,hbb⟩ : ∃ bb,bb = b + b2:=⟨_,rfl⟩
       rw [← hbb] at wb
       simp only [method_specs_simp,seval,wb]
       refine Again.mk (b,bb,z') [0] ⟨hbb,_,by rw [hb,hb2]; exact sg2⟩ (by simp only; omega) ?_
       simp only [mvcgen_simp,method_specs_simp,seval]
      ·simp only [decide_eq_false_iff_not,Zb,Ym] at h2
       have wq : IntKind.i64.wrap ((bs : Int) * 2) = (b2 : Int):=by rw [wrap_id (by omega) (by omega)]; omega
       simp only [method_specs_simp,seval,wm]
       refine gB_split (fun h3=>?_) (fun h3=>?_)
       ·simp only [decide_eq_true_eq,Za] at h3
        obtain ⟨L,R,e1,e2,e3,e4,e5,e6,e7,e8⟩:=sg.last (by omega) (by omega) (by omega) hs
        have hmg : MG P d c dl z (Gm.blk d (2 * bs) l) n a m n Q L R []:=⟨e1,e2,sg.hP.symm,by omega,by omega,by omega,by omega,e5,e6,e7,fun x hx y hy=>hc x (e8 x hx) y (e8 y hy),hzl.symm,by omega⟩
        refine clY.live [0] [] (n_symMerge c dl _ (Zl _) hmg) ?_ (by simp) ?_
        ·simp only [mvcgen_simp,method_specs_simp,seval]
        simp only [method_specs_simp,seval,wq]
        refine Again.mk b2 [0] ⟨by omega,by omega⟩ (by omega) ?_
        rw [← hb2]
        simp only [mvcgen_simp,method_specs_simp,seval]
       ·simp only [decide_eq_false_iff_not,Zb,Za] at h3
        have hz2:=sg.rest (by omega)
        simp only [method_specs_simp,seval,wq]
        refine Again.mk b2 [0] ⟨by omega,by omega⟩ (by omega) ?_
        rw [hz2,← hb2]
        simp only [mvcgen_simp,method_specs_simp,seval]
    ·simp only [decide_eq_false_iff_not,Zb,Za] at h1
     have hz2:=Gm.blk_small (d:=d) (bs:=bs) (l:=l) (by omega)
     refine LResY.mk [0] ?_
     simp only [mvcgen_simp,method_specs_simp,seval,hz2,Gm.blk_len]
     exact hn
theorem n_sortStable {d : Int → Int} (c : FuncId) (dl : List Int) {l : List Int} {n : Nat} (hc : ∀ x ∈ l,∀ y ∈ l,Con P c [.int .i64 x,.int .i64 y,.fptr [.sl 1 (dl.map encI)] 0] (.int .i64 (cmpI (d x) (d y)))) (hs : StD d l) (hn : l.length = n) (hlt : n < 2 ^ 58) :
  LCon P 200 [.ar 0 0 n,.fn c [] [.fptr [.sl 1 (dl.map encI)] 0]] [.arr true 1 (l.map encI)] (.tup []) [.arr true 1 ((srtD d l).map encI)]:=by
 refine LCon.of (n:=9) (rs:=[]) (Is.fn Try.func200) rfl (Is.call Try.call200) Try.results200 Try.ntmps200 ?_
 simp only [method_specs_simp,seval]
 refine clY.live [0] [] (n_stable c dl hc hs hn hlt) ?_ (by simp) ?_
 ·simp only [mvcgen_simp,method_specs_simp,seval]
 simp only [method_specs_simp,seval]
 refine LResY.mk [0] ?_
 simp only [mvcgen_simp,method_specs_simp,seval,hn]
end
end Go.Proofs.Ytnlobbbbgcdiiaa
end
section
namespace Go.Proofs.Ytnlobbbbgcdiiaa
open Go.Pm
open Go.Gm (Ev Gr LtD ltD StD srtD)
def rangeI (k : Nat) : List Int:=(Ys k).map fun i : Nat=>(i : Int)
theorem rangeI_len (k : Nat) : (rangeI k).length = k:=by simp [rangeI]
theorem rangeI_succ (k : Nat) : rangeI (k + 1) = rangeI k ++ [(k : Int)]:=by simp [rangeI,List.range_succ]
theorem rangeI_mem {k : Nat} {x : Int} : x ∈ rangeI k ↔ ∃ i : Nat,i < k ∧ x = (i : Int):=by
 simp only [rangeI,ZR,List.mem_range]
 exact ⟨fun ⟨i,h,e⟩=>⟨i,h,e.symm⟩,fun ⟨i,h,e⟩=>⟨i,h,e.symm⟩⟩
theorem rangeI_std (d : Int → Int) (k : Nat) : StD d (rangeI k):=by
 unfold StD rangeI
 rw [YV]
 refine List.Pairwise.imp (fun {a b} h _=>?_) YW
 omega
def dpl (dl : List Int) (x : Int) : Int:=dl.getD x.toNat 0
def idAtP (evs : List Ev) (x : Int) : Int:=match evs[x.toNat]? with
 | some e=>e.id
 | none=>0
def orderE (evs : List Ev) : List Int:=(srtD (dpl (Gm.depthsE evs)) (rangeI evs.length)).map (idAtP evs)
theorem orderE_len (evs : List Ev) : (orderE evs).length = evs.length:=by simp [orderE,Gm.srtD_len,rangeI_len]
section
variable {P : Program} [Is P]
theorem c_orderC (dl : List Int) (hd : dl.length < 2 ^ 60) (x y : Int) (hx : x ∈ rangeI dl.length) (hy : y ∈ rangeI dl.length) : Con P 201 [.int .i64 x,.int .i64 y,.fptr [.sl 1 (dl.map encI)] 0] (.int .i64 (cmpI (dpl dl x) (dpl dl y))):=by
 obtain ⟨i,hi,rfl⟩:=rangeI_mem.1 hx
 obtain ⟨j,hj,rfl⟩:=rangeI_mem.1 hy
 obtain ⟨u,hu⟩ : ∃ u,dl[i]? = some u:=⟨_,Zc hi⟩
 obtain ⟨v,hv⟩ : ∃ v,dl[j]? = some v:=⟨_,Zc hj⟩
 have e1 : dpl dl (i : Int) = u:=by unfold dpl; rw [ZV,Zp,hu]; rfl
 have e2 : dpl dl (j : Int) = v:=by unfold dpl; rw [ZV,Zp,hv]; rfl
 rw [e1,e2]
 refine Con.of (n:=15) (rs:=[.tmp 5]) (Is.fn Try.func201) rfl (Is.call Try.call201) Try.results201 Try.ntmps201 trivial ?_
 simp only [method_specs_simp,seval]
 simp only [method_specs_simp,seval,hu,hv,encI]
 refine ⟨by kernel_rfl,by omega,by omega,by omega,by omega,?_⟩
 refine clY.con (c172 u v) (by simp only [method_specs_simp]) ?_
 simp only [method_specs_simp,seval]
theorem n_order (g : Gr) (hx : EvsOK g.events) (hs : Gm.Srt g.events) (hin : ∀ e ∈ g.events,Gm.allIn g.events e = true) : NCon P 169 [.agg (encGr g)] (.ar 0 0 g.events.length) [.arr true 1 ((orderE g.events).map encI)]:=by
 have hx1:=hx.1
 have hdl:=(Gm.depths_ok g.events).len
 refine LCon.new (LCon.of (n:=48) (rs:=[.tmp 2]) (Is.fn Try.func169) rfl (Is.call Try.call169) Try.results169 Try.ntmps169 ?_) (pure1 (pure_ints _ _))
 simp only [method_specs_simp,seval,encGr]
 refine clY.con (c_depths g hx hs hin) (by simp only [method_specs_simp,encGr]) ?_
 simp only [method_specs_simp,seval,encGr]
 obtain ⟨dl,hdd⟩ : ∃ dl,dl = Gm.depthsE g.events:=⟨_,rfl⟩
 rw [← hdd]
 refine SW.while (A:=Nat) (fun i=>⟨pad 48 [.junk,.ptr 0 0,.nil,.ptr 1 0,.junk,.ar 2 0 i,.junk,.junk,.junk,.junk,.junk,.junk,.junk,.junk,.junk,.junk,.junk,.junk,.int .i64 g.events.length,.int .i64 i],[.box true (encGr g),.box true [.sl 1 (dl.map encI)],.arr true 1 ((rangeI i).map encI)],[]⟩) (fun i=>g.events.length - i) (fun i=>i ≤ g.events.length) 0 [0,1,2] (Zh _) ?_ ?_
 ·simp only [mvcgen_simp,method_specs_simp,seval,encGr,rangeI,List.range_zero,Yc]
 ·intro i hi
  have hrl:=rangeI_len i
  refine CW.sound ?_
  simp only [method_specs_simp,seval,encGr,hrl]
  refine gB_split (fun h=>?_) (fun h=>?_)
  ·simp only [decide_eq_true_eq,Za] at h
   have w1 : IntKind.i64.wrap ((i : Int) + 1) = ((i + 1 : Nat) : Int):=wadd1 i (by omega)
   simp only [method_specs_simp,seval,encGr,w1,hrl]
   have e1 : (rangeI i).map encI ++ [[V.int IntKind.i64 (i : Int)]] = (rangeI (i + 1)).map encI:=by rw [rangeI_succ,ZP]; rfl
   refine ⟨by omega,by omega,?_⟩
   refine Again.mk (i + 1) [0,1,4] h (Zd h (Ze _)) ?_
   rw [e1]
   simp only [mvcgen_simp,method_specs_simp,seval,encGr]
  ·have hi2 : i = g.events.length:=by simp only [decide_eq_false_iff_not,Zb,Za] at h; omega
   have hdn : dl.length = i:=by rw [hdd,hdl,hi2]
   refine clY.live [2] [1] (n_sortStable (d:=dpl dl) 201 dl (n:=i) (l:=rangeI i) (fun x hx y hy=>c_orderC dl (by omega) x y (by rw [hdn]; exact hx) (by rw [hdn]; exact hy)) (rangeI_std _ _) hrl (by omega)) ?_ (by simp) ?_
   ·simp only [mvcgen_simp,method_specs_simp,seval,encGr,hrl]
   simp only [method_specs_simp,seval,encGr]
   obtain ⟨ps,hps⟩ : ∃ ps,ps = srtD (dpl dl) (rangeI i):=⟨_,rfl⟩
   have hpl : ps.length = i:=by rw [hps,Gm.srtD_len,hrl]
   have hpm : ∀ x ∈ ps,∃ k : Nat,k < i ∧ x = (k : Int):=fun x hx=>rangeI_mem.1 ((Gm.srtD_perm _ _).subset (by rw [← hps]; exact hx))
   have hor : orderE g.events = ps.map (idAtP g.events):=by unfold orderE; rw [hps,← hdd,hi2]
   rw [← hps,← hi2]
   refine SW.while (A:=Nat) (fun j=>⟨pad 48 [.junk,.ptr 0 0,.nil,.junk,.junk,.junk,.junk,.ar 2 0 j,.junk,.junk,.junk,.junk,.junk,.junk,.junk,.junk,.junk,.junk,.junk,.junk,.junk,.junk,.junk,.junk,.junk,.junk,.junk,.junk,.junk,.junk,.junk,.ar 1 0 i,.int .i64 i,.int .i64 j],[.box true (encGr g),.arr true 1 (ps.map encI),.arr true 1 (((ps.take j).map (idAtP g.events)).map encI)],[]⟩) (fun j=>i - j) (fun j=>j ≤ i) 0 [0,2,3] (Zh _) ?_ ?_
   ·simp only [mvcgen_simp,method_specs_simp,seval,encGr,List.take_zero,Yc]
   ·intro j hj
    have hol : ((ps.take j).map (idAtP g.events)).length = j:=by rw [Yd,Zr]; omega
    refine CW.sound ?_
    simp only [method_specs_simp,seval,encGr,hpl]
    refine gB_split (fun h1=>?_) (fun h1=>?_)
    ·simp only [decide_eq_true_eq,Za] at h1
     obtain ⟨x,hx⟩ : ∃ x,ps[j]? = some x:=⟨_,Zc (by omega)⟩
     obtain ⟨k,hk,rfl⟩:=hpm x (ZG hx)
     obtain ⟨e,he⟩ : ∃ e,g.events[k]? = some e:=⟨_,Zc (by omega)⟩
     have hid : idAtP g.events (k : Int) = e.id:=by unfold idAtP; rw [ZV,he]
     have w1 : IntKind.i64.wrap ((j : Int) + 1) = ((j + 1 : Nat) : Int):=wadd1 j (by omega)
     have e1 : ((ps.take j).map (idAtP g.events)).map encI ++ [[V.int .i64 e.id]] = ((ps.take (j + 1)).map (idAtP g.events)).map encI:=by
      rw [ZZ,hx,YG,ZP,ZP,Yn,Yn,hid]; rfl
     simp only [method_specs_simp,seval,encGr,w1,hol,hx,he,encI,encEv,hpl]
     refine ⟨by omega,by omega,by omega,by omega,by omega,by omega,?_⟩
     refine Again.mk (j + 1) [0,1,4] h1 (Zd h1 (Ze _)) ?_
     rw [e1]
     simp only [mvcgen_simp,method_specs_simp,seval,encGr]
    ·have hj2 : j = i:=by simp only [decide_eq_false_iff_not,Zb,Za] at h1; omega
     subst hj2
     have e2 : (ps.take j).map (idAtP g.events) = orderE g.events:=by rw [hor,ZD (by omega)]
     refine LResY.mk [2] ?_
     simp only [mvcgen_simp,method_specs_simp,seval,encGr,e2]
end
theorem sub_erase {l m : List Int} {x : Int} (hx : x ∉ l) (h : l ⊆ m) : l ⊆ m.erase x:=fun y hy=>by
 have hne : y ≠ x:=fun e=>hx (e ▸ hy)
 exact (List.mem_erase_of_ne hne).2 (h hy)
theorem nodup_len : ∀ {l m : List Int},l.Nodup → l ⊆ m → l.length ≤ m.length
 | [],m,_,_=>Zh _
 | x :: l,m,hn,h=>by
   have h1:=YB.1 hn
   have hx : x ∈ m:=h ZN
   have:=nodup_len h1.2 (sub_erase h1.1 fun y hy=>h (ZX _ hy))
   rw [YX hx] at this
   have:=YY hx
   simp only [ZL]; omega
theorem nodup_perm : ∀ {l m : List Int},l.Nodup → l ⊆ m → m.length ≤ l.length → l.Perm m
 | [],m,_,_,hl=>by
   have : m = []:=Yz (by simpa using hl)
   rw [this]
 | x :: l,m,hn,h,hl=>by
   have h1:=YB.1 hn
   have hx : x ∈ m:=h ZN
   have hp:=YY hx
   have:=nodup_perm h1.2 (sub_erase h1.1 fun y hy=>h (ZX _ hy)) (by rw [YX hx]; simp only [ZL] at hl; omega)
   exact (this.cons x).trans (List.perm_cons_erase hx).symm
def lvl (dl : List Int) (k : Int) (i : Nat) : List Int:=(rangeI i).filter fun x=>dpl dl x == k
def upto (dl : List Int) : Nat → List Int
 | 0=>[]
 | k + 1=>upto dl k ++ lvl dl (k : Int) dl.length
theorem upto_mem {dl : List Int} : ∀ {k : Nat} {x : Int},x ∈ upto dl k ↔ x ∈ rangeI dl.length ∧ 0 ≤ dpl dl x ∧ dpl dl x < k
 | 0,x=>⟨fun h=>by simp [upto] at h,fun h=>by omega⟩
 | k + 1,x=>by
   rw [upto,ZS,upto_mem,lvl,YH,beq_iff_eq]
   constructor
   ·rintro (⟨h1,h2,h3⟩ | ⟨h1,h2⟩)
    ·exact ⟨h1,h2,by omega⟩
    ·exact ⟨h1,by omega,by omega⟩
   ·rintro ⟨h1,h2,h3⟩
    by_cases h : dpl dl x = k
    ·exact .inr ⟨h1,h⟩
    ·exact .inl ⟨h1,h2,by omega⟩
theorem rangeI_lt (k : Nat) : (rangeI k).Pairwise (· < ·):=by
 unfold rangeI
 rw [YV]
 exact List.Pairwise.imp (fun {a b} h=>by omega) YW
theorem upto_sorted (dl : List Int) : ∀ k,(upto dl k).Pairwise (LtD (dpl dl))
 | 0=>List.Pairwise.nil
 | k + 1=>by
   rw [upto]
   refine Zv.2 ⟨upto_sorted dl k,?_,fun x hx y hy=>?_⟩
   ·refine List.Pairwise.imp_of_mem (fun {a b} ha hb h=>?_) ((rangeI_lt dl.length).sublist List.filter_sublist)
    rw [lvl,YH,beq_iff_eq] at ha hb
    rw [Gm.ltD_iff]
    exact .inr ⟨by omega,h⟩
   ·have h1:=(upto_mem.1 hx).2
    rw [lvl,YH,beq_iff_eq] at hy
    rw [Gm.ltD_iff]
    exact .inl (by omega)
theorem lt_nodup {dl : List Int} {l : List Int} (h : l.Pairwise (LtD (dpl dl))) : l.Nodup:=List.Pairwise.imp (fun {x y} h e=>by subst e; exact (Gm.ltD_str _).irr _ h) h
theorem upto_all {dl : List Int} {k : Nat} (hnn : ∀ x ∈ rangeI dl.length,0 ≤ dpl dl x) (hk : dl.length ≤ (upto dl k).length) : upto dl k = srtD (dpl dl) (rangeI dl.length):=by
 have hnd:=lt_nodup (upto_sorted dl k)
 have hsub : upto dl k ⊆ rangeI dl.length:=fun x hx=>(upto_mem.1 hx).1
 refine Gm.srtD_of ?_ (upto_sorted dl k)
 exact nodup_perm hnd hsub (by rw [rangeI_len]; exact hk)
theorem upto_len_le (dl : List Int) (k : Nat) : (upto dl k).length ≤ dl.length:=by
 have h1:=nodup_len (lt_nodup (upto_sorted dl k)) (fun x hx=>(upto_mem.1 hx).1 : upto dl k ⊆ rangeI dl.length)
 rwa [rangeI_len] at h1
theorem upto_more {dl : List Int} {k : Nat} (hnn : ∀ x ∈ rangeI dl.length,0 ≤ dpl dl x) (hk : (upto dl k).length < dl.length) : ∃ x ∈ rangeI dl.length,(k : Int) ≤ dpl dl x:=by
 by_cases h : ∃ x ∈ rangeI dl.length,(k : Int) ≤ dpl dl x
 ·exact h
 ·exfalso
  have hsub : rangeI dl.length ⊆ upto dl k:=fun x hx=>upto_mem.2 ⟨hx,hnn x hx,by
   by_cases h2 : (k : Int) ≤ dpl dl x
   ·exact absurd ⟨x,hx,h2⟩ h
   ·omega⟩
  have hn : (rangeI dl.length).Nodup:=(rangeI_std (fun _=>0) _).nodup
  have:=nodup_len hn hsub
  rw [rangeI_len] at this
  omega
theorem lvl_succ {dl : List Int} {k : Int} {i : Nat} {x : Int} (h : dl[i]? = some x) : lvl dl k (i + 1) = lvl dl k i ++ (if (x == k) = true then [(i : Int)] else []):=by
 have e : dpl dl (i : Int) = x:=by unfold dpl; rw [ZV,Zp,h]; rfl
 unfold lvl
 rw [rangeI_succ,List.filter_append]
 congr 1
 rw [List.filter_cons,e]
 cases hx : x == k <;> rfl
theorem lvl_zero (dl : List Int) (k : Int) : lvl dl k 0 = []:=rfl
theorem iter_bd {evs : List Ev} : ∀ (k : Nat) {d : List Int},Gm.OkD evs d → Gm.BdD evs d → Gm.BdD evs (Gm.iterD evs k d)
 | 0,d,_,h=>h
 | k + 1,d,h,hb=>iter_bd k (by exact Gm.passK_ok h _) (by exact Gm.passK_bd h hb _)
theorem depths_bd (evs : List Ev) : ∀ x ∈ Gm.depthsE evs,x ≤ evs.length:=fun x hx=>by
 have:=iter_bd evs.length (Gm.OkD.zero evs) (Gm.BdD.zero evs) x hx
 omega
theorem dpl_mem {dl : List Int} {x : Int} (h : x ∈ rangeI dl.length) : dpl dl x ∈ dl:=by
 obtain ⟨i,hi,rfl⟩:=rangeI_mem.1 h
 unfold dpl
 rw [ZV,Zp,Zc hi]
 exact Zn hi
theorem upto_one {dl : List Int} (hpos : ∀ x ∈ dl,1 ≤ x) : upto dl 1 = []:=by
 rw [List.eq_nil_iff_forall_not_mem]
 intro x hx
 have h:=upto_mem.1 hx
 have:=hpos _ (dpl_mem h.1)
 omega
def outL (dl : List Int) (k i : Nat) : List Int:=upto dl k ++ lvl dl (k : Int) i
theorem outL_zero (dl : List Int) (k : Nat) : outL dl k 0 = upto dl k:=by unfold outL; rw [lvl_zero,ZH]
theorem outL_yes {dl : List Int} {k i : Nat} {x : Int} (h : dl[i]? = some x) (hx : (x == (k : Int)) = true) : outL dl k (i + 1) = outL dl k i ++ [(i : Int)]:=by
 unfold outL; rw [lvl_succ h,if_pos hx,Zf]
theorem outL_no {dl : List Int} {k i : Nat} {x : Int} (h : dl[i]? = some x) (hx : (x == (k : Int)) = false) : outL dl k (i + 1) = outL dl k i:=by
 unfold outL; rw [lvl_succ h,hx,if_neg (by simp),ZH]
theorem outL_len (dl : List Int) (k i : Nat) : (outL dl k i).length ≤ dl.length + i:=by
 have h5:=List.length_filter_le (fun x=>dpl dl x == (k : Int)) (rangeI i)
 rw [rangeI_len] at h5
 have:=upto_len_le dl k
 unfold outL; rw [Zi]; unfold lvl; omega
section
variable {P : Program} [Is P]
theorem c_l03Sort (g : Gr) (hx : EvsOK g.events) (hin : ∀ e ∈ g.events,Gm.allIn g.events e = true) (hpos : ∀ x ∈ Gm.depthsE g.events,1 ≤ x) : Con P 108 [.agg (encGr g)] (.sl 1 ((orderE g.events).map encI)):=by
 have hx1:=hx.1
 have hdl:=(Gm.depths_ok g.events).len
 refine Con.of (n:=42) (rs:=[.tmp 2]) (Is.fn Try.func108) rfl (Is.call Try.call108) Try.results108 Try.ntmps108 (by simp only [method_specs_simp]) ?_
 simp only [method_specs_simp,seval,encGr]
 refine clY.con (c_l03Depths g.events hx hin) (by simp only [method_specs_simp,encGr]) ?_
 simp only [method_specs_simp,seval,encGr]
 obtain ⟨dl,hdd⟩ : ∃ dl,dl = Gm.depthsE g.events:=⟨_,rfl⟩
 rw [← hdd] at hdl hpos
 rw [← hdd]
 have hnn : ∀ x ∈ rangeI dl.length,0 ≤ dpl dl x:=fun x hx=>by have:=hpos _ (dpl_mem hx); omega
 have hbd : ∀ x ∈ rangeI dl.length,dpl dl x ≤ g.events.length:=fun x hx=>depths_bd g.events _ (by rw [← hdd]; exact dpl_mem hx)
 refine SW.while (A:=Nat) (fun k=>⟨pad 42 [.junk,.ptr 0 0,.nil,.sl 1 (dl.map encI),.ar 1 0 (upto dl k).length,.int .i64 k],[.box true (encGr g),.arr true 1 (((upto dl k).map (idAtP g.events)).map encI)],[]⟩) (fun k=>g.events.length + 1 - k) (fun k=>1 ≤ k ∧ k ≤ g.events.length + 1) 1 [0,1] ⟨Zl _,by omega⟩ ?_ ?_
 ·simp only [mvcgen_simp,method_specs_simp,seval,encGr,upto_one hpos,Yc,ZK]
 ·rintro k ⟨hk1,hk2⟩
  have hul:=upto_len_le dl k
  refine CW.sound ?_
  simp only [method_specs_simp,seval,encGr]
  refine gB_split (fun h=>?_) (fun h=>?_)
  ·simp only [decide_eq_true_eq,Za] at h
   obtain ⟨x,hx2,hx3⟩:=upto_more hnn (k:=k) (by omega)
   have hkn:=hbd x hx2
   refine SW.while (A:=Nat) (fun i=>⟨pad 42 [.junk,.ptr 0 0,.nil,.sl 1 (dl.map encI),.ar 1 0 (outL dl k i).length,.int .i64 k,.int .i64 i],[.box true (encGr g),.arr true 1 (((outL dl k i).map (idAtP g.events)).map encI)],[]⟩) (fun i=>g.events.length - i) (fun i=>i ≤ g.events.length) 0 [0,1] (Zh _) ?_ ?_
   ·simp only [mvcgen_simp,method_specs_simp,seval,encGr,outL_zero]
   ·intro i hi
    have hol:=outL_len dl k i
    refine CW.sound ?_
    simp only [method_specs_simp,seval,encGr]
    refine gB_split (fun h1=>?_) (fun h1=>?_)
    ·simp only [decide_eq_true_eq,Za] at h1
     obtain ⟨v,hv⟩ : ∃ v,dl[i]? = some v:=⟨_,Zc (by omega)⟩
     obtain ⟨e,he⟩ : ∃ e,g.events[i]? = some e:=⟨_,Zc h1⟩
     have hid : idAtP g.events (i : Int) = e.id:=by unfold idAtP; rw [ZV,he]
     have w1 : IntKind.i64.wrap ((i : Int) + 1) = ((i + 1 : Nat) : Int):=wadd1 i (by omega)
     simp only [method_specs_simp,seval,encGr,hv,encI,hdl]
     refine ⟨by omega,by omega,?_⟩
     cases hvk : v == (k : Int) with
     | true =>
      have hsu:=outL_yes hv hvk
      have e1 : ((outL dl k i).map (idAtP g.events)).map encI ++ [[V.int .i64 e.id]] = ((outL dl k (i + 1)).map (idAtP g.events)).map encI:=by
       rw [hsu,ZP,ZP,Yn,Yn,hid]; rfl
      have e2 : (outL dl k (i + 1)).length = (outL dl k i).length + 1:=by rw [hsu,Zi]; rfl
      simp only [method_specs_simp,seval,encGr,he,encEv,w1]
      refine ⟨by omega,by omega,by omega,by omega,?_⟩
      refine Again.mk (i + 1) [0,3] h1 (Zd h1 (Ze _)) ?_
      rw [e1,← e2]
      simp only [mvcgen_simp,method_specs_simp,seval,encGr]
     | false =>
      have hsu:=outL_no hv hvk
      simp only [method_specs_simp,seval,encGr]
      refine Again.mk (i + 1) [0,1] h1 (Zd h1 (Ze _)) ?_
      rw [hsu,w1]
      simp only [mvcgen_simp,method_specs_simp,seval,encGr]
    ·have hi2 : i = g.events.length:=by simp only [decide_eq_false_iff_not,Zb,Za] at h1; omega
     have w1 : IntKind.i64.wrap ((k : Int) + 1) = ((k + 1 : Nat) : Int):=wadd1 k (by omega)
     have e3 : outL dl k i = upto dl (k + 1):=by rw [hi2,← hdl]; rfl
     simp only [method_specs_simp,seval,encGr,w1]
     refine Again.mk (k + 1) [0,1] ⟨by omega,by omega⟩ (by omega) ?_
     rw [e3]
     simp only [mvcgen_simp,method_specs_simp,seval,encGr]
  ·simp only [decide_eq_false_iff_not,Zb,Za] at h
   have e4 : (upto dl k).map (idAtP g.events) = orderE g.events:=by
    unfold orderE
    rw [upto_all hnn (by omega),← hdd,hdl]
   have e5 : (upto dl k).length = ((upto dl k).map (idAtP g.events)).length:=(Yd _).symm
   rw [e5,e4]
   simp only [method_specs_simp,seval,encGr]
end
end Go.Proofs.Ytnlobbbbgcdiiaa
end
section
namespace Go.Proofs.Ytnlobbbbgcdiiaa
open Go.Pm
open Go.Gm (Ev Gr)
@[mvcgen_simp] theorem jk_refl : ∀ xs : List V,jk xs xs = True
 | []=>jk_nil
 | x :: xs=>by rw [jk_cons,jk_refl xs]; simp
theorem LResY.tail {m A L : List Ob} {x r : V} (em : m = A ++ L.map (Ob.ren (A.length + ·))) (ex : x = r.ren (A.length + ·)) (hL : ∀ ob ∈ L,ob.refs (· < L.length)) (hr : Ref (· < L.length) r) : @LResY m [] x ⟨[],r,L⟩:=by
 subst em; subst ex
 have hin : ∀ q,q ∈ segK A.length L.length → ∃ (h : q - A.length < L.length),(A ++ L.map (Ob.ren (A.length + ·))).getD q .hole = (L[q - A.length]).ren (A.length + ·):=fun q hq=>by
  obtain ⟨h1,h2⟩:=segK_mem.1 hq
  have h3 : q - A.length < L.length:=by omega
  refine ⟨h3,?_⟩
  rw [Zp,ZA h1,Zg,Zc h3]; rfl
 have hidx : ∀ o,o < L.length → idx (segK A.length L.length) (A.length + o) = o:=fun o ho=>by rw [segK_idx (by omega)]; omega
 refine LResY.mk (segK A.length L.length) ⟨segK_nodup _ _,fun q hq=>?_,fun q hq=>?_,?_,⟨.inr ⟨?_,?_⟩,rfl⟩,rfl⟩
 ·have:=segK_mem.1 hq
  simp only [Zi,Yd]; omega
 ·obtain ⟨h3,e⟩:=hin q hq
  simp only
  rw [e]
  refine Ob.refs_ren ?_
  have h2:=hL _ (Zn h3)
  revert h2
  generalize L[q - A.length] = ob
  cases ob with
  | hole=>exact fun _=>trivial
  | dead=>exact fun _=>trivial
  | box lv cs=>exact fun h2=>Refs.mono (fun o ho=>segK_mem.2 (by omega)) _ h2
  | arr lv sz xs=>exact fun h2=>Refss.mono (fun o ho=>segK_mem.2 (by omega)) _ h2
  | mp lv ks vs=>exact fun h2=>⟨Refs.mono (fun o ho=>segK_mem.2 (by omega)) _ h2.1,Refs.mono (fun o ho=>segK_mem.2 (by omega)) _ h2.2⟩
 ·simp only
  apply YN
  intro i
  rw [Zg,segK_get]
  by_cases hi : i < L.length
  ·rw [if_pos hi,Zc hi,ZO]
   obtain ⟨h3,e⟩:=hin (A.length + i) (segK_mem.2 (by omega))
   rw [e,Ob.ren_twice]
   simp only [Nat.add_sub_cancel_left]
   rw [Ob.ren_self hidx (hL _ (Zn hi))]
  ·rw [if_neg hi,Yq (by omega)]; rfl
 ·exact Ref.ren _ (Ref.mono (fun o ho=>segK_mem.2 (by omega)) _ hr)
 ·rw [V.twice]
  have:=V.congr (ρ:=fun o=>idx (segK A.length L.length) (A.length + o)) (σ:=fun o=>o) hidx r hr
  rw [this,V.ren_id]
theorem LResY.tail3 {a b c : Ob} {m L : List Ob} {x r : V} (em : m = L.map (Ob.ren (3 + ·))) (ex : x = r.ren (3 + ·)) (hL : ∀ ob ∈ L,ob.refs (· < L.length)) (hr : Ref (· < L.length) r) : @LResY (a :: b :: c :: m) [] x ⟨[],r,L⟩ :=
 LResY.tail (A:=[a,b,c]) (by subst em; rfl) ex hL hr
def rowEv (q : Nat) (e : Ev) : List V:=[.int .i64 e.id,.int .i64 e.room,.int .i64 e.author,.int .i64 e.kind,.int .i64 e.key,.int .i64 e.n,.str e.text,.ar q 0 e.prev.length,.int .i64 e.time]
def rowsEv : Nat → List Ev → List (List V)
 | _,[]=>[]
 | q,e :: l=>rowEv q e :: rowsEv (q + 1) l
def obI (e : Ev) : Ob:=.arr true 1 (e.prev.map encI)
def obE (l : List Ev) : List Ob:=.arr true 9 (rowsEv 1 l) :: l.map obI
theorem rowsEv_len : ∀ (q : Nat) (l : List Ev),(rowsEv q l).length = l.length
 | _,[]=>rfl
 | q,e :: l=>by simp [rowsEv,rowsEv_len (q + 1) l]
theorem rowsEv_app : ∀ (q : Nat) (l l' : List Ev),rowsEv q (l ++ l') = rowsEv q l ++ rowsEv (q + l.length) l'
 | _,[],l'=>rfl
 | q,e :: l,l'=>by
   simp only [ZF,rowsEv,rowsEv_app (q + 1) l l',ZL]
   rw [show q + 1 + l.length = q + (l.length + 1) by omega]
theorem rowsEv_ren (b : Nat) : ∀ (q : Nat) (l : List Ev),renss (b + ·) (rowsEv q l) = rowsEv (b + q) l
 | _,[]=>rfl
 | q,e :: l=>by
   simp only [rowsEv,renss,rowsEv_ren b (q + 1) l]
   rfl
theorem obI_ren (ρ : Nat → Nat) (e : Ev) : (obI e).ren ρ = obI e:=by
 unfold obI
 simp only [Ob.ren,encI_rens]
def obEb (b : Nat) (l : List Ev) : List Ob:=.arr true 9 (rowsEv (b + 1) l) :: l.map obI
theorem obE_ren (b : Nat) (l : List Ev) : (obE l).map (Ob.ren (b + ·)) = obEb b l:=by
 unfold obE obEb
 simp only [Yb,Ob.ren,rowsEv_ren,List.map_map]
 congr 1
 exact YZ fun e _=>obI_ren _ e
theorem obE_len (l : List Ev) : (obE l).length = l.length + 1:=by simp [obE]
theorem obEb_len (b : Nat) (l : List Ev) : (obEb b l).length = l.length + 1:=by simp [obEb]
theorem obI_refs (ok : Nat → Prop) (e : Ev) : (obI e).refs ok:=of_eq_true (encI_refs ok e.prev)
theorem rowsEv_refs {ok : Nat → Prop} : ∀ (q : Nat) (l : List Ev),(∀ i,q ≤ i → i < q + l.length → ok i) → Refss ok (rowsEv q l)
 | _,[],_=>trivial
 | q,e :: l,h=>⟨⟨trivial,trivial,trivial,trivial,trivial,trivial,trivial,h q (Zl _) (by simp),trivial,trivial⟩,rowsEv_refs (q + 1) l fun i h1 h2=>h i (by omega) (by simp only [ZL]; omega)⟩
theorem obE_refs {n : Nat} (l : List Ev) (h : l.length < n) : ∀ ob ∈ obE l,ob.refs (· < n):=fun ob ho=>by
 rcases Zz.1 ho with rfl | ho
 ·exact rowsEv_refs 1 l fun i h1 h2=>by omega
 ·obtain ⟨e,_,rfl⟩:=ZR.1 ho
  exact obI_refs _ e
def mInts : Int → Nat → List Int
 | _,0=>[]
 | k,n + 1=>k :: mInts (k + 1) n
def mEv (k : Int) (e : Ev) : Ev:=⟨k,k + 1,k + 2,k + 3,k + 4,k + 5,mText (k + 6),mInts (k + 7) e.prev.length,k + 7 + e.prev.length⟩
def wM : List Ev → Int
 | []=>0
 | e :: l=>8 + e.prev.length + wM l
def mEvs : Int → List Ev → List Ev
 | _,[]=>[]
 | k,e :: l=>mEv k e :: mEvs (k + 8 + e.prev.length) l
def mixE (k : Int) (l : List Ev) (i : Nat) : List Ev:=(mEvs k l).take i ++ l.drop i
section
variable {P : Program} [Is P]
theorem n_toEvent (e : Ev) (he : EvOK e) : NCon P 43 [.agg (encEv e)] (.agg (rowEv 0 e)) [obI e]:=by
 refine LCon.new (LCon.of (n:=33) (rs:=[.cell 2 79]) (Is.fn Try.func43) rfl (Is.call Try.call43) Try.results43 Try.ntmps43 ?_) (pure1 (pure_ints _ _))
 simp only [method_specs_simp,seval]
 simp only [method_specs_simp,seval,encEv]
 refine clY.new (n_toInt64S e.prev he.2) (by simp only [method_specs_simp]) ?_
 simp only [method_specs_simp,seval]
 refine LResY.mk [3] ?_
 simp only [mvcgen_simp,method_specs_simp,seval,rowEv,obI]
def rowsL (xs : List Ev) (k : Nat) : List (List V):=rowsEv 1 (xs.take k) ++ Zj (xs.length - k) zEv
theorem rowsL_len {xs : List Ev} {k : Nat} (hk : k ≤ xs.length) : (rowsL xs k).length = xs.length:=by
 simp [rowsL,rowsEv_len,Yw hk]; omega
theorem rowsL_zero (xs : List Ev) : rowsL xs 0 = Zj xs.length zEv:=by simp [rowsL,rowsEv]
theorem rowsL_all (xs : List Ev) : rowsL xs xs.length = rowsEv 1 xs:=by simp [rowsL]
theorem rowsL_get {xs : List Ev} {k : Nat} (hk : k < xs.length) : (rowsL xs k).getD k [] = zEv:=by
 unfold rowsL
 rw [Zp,ZA (by simp [rowsEv_len]; omega),rowsEv_len,Zr,show k - min k xs.length = 0 by omega,show xs.length - k = (xs.length - (k + 1)) + 1 by omega,Yj]
 rfl
theorem rowsL_set {xs : List Ev} {k : Nat} {x : Ev} (hx : xs[k]? = some x) : (rowsL xs k).set k (rowEv (k + 1) x) = rowsL xs (k + 1):=by
 have hk:=(Zy.1 hx).1
 unfold rowsL
 rw [Yx _ _ (by simp [rowsEv_len]; omega),rowsEv_len,Zr,show k - min k xs.length = 0 by omega,show xs.length - k = (xs.length - (k + 1)) + 1 by omega,Yj,Yt,ZZ,hx,YG,rowsEv_app,Zr,Yw (by omega),Zf]
 simp [rowsEv,Nat.add_comm]
theorem n_toEventS (xs : List Ev) (hx : EvsOK xs) : LCon P 113 [.sl 9 (xs.map encEv)] [] (.ar 0 0 xs.length) (obE xs):=by
 have hx1:=hx.1
 refine LCon.ofJ (n:=23) (rs:=[.tmp 2]) (Is.fn Try.func113) rfl (Is.call Try.call113) Try.results113 Try.ntmps113 ?_
 simp only [method_specs_simp,seval]
 refine ⟨by omega,by omega,by omega,?_⟩
 refine SW.whileJ (A:=Nat) (fun k=>⟨pad 23 [.sl 9 (xs.map encEv),.junk,.nil,.ar 0 0 xs.length,.int .i64 k],.arr true 9 (rowsL xs k) :: (xs.take k).map obI,[]⟩) (fun k=>xs.length - k) (fun k=>k ≤ xs.length) 0 (Zh _) ?_ ?_
 ·have ez : Zj xs.length [V.int .i64 0,.int .i64 0,.int .i64 0,.int .i64 0,.int .i64 0,.int .i64 0,.str ByteArray.empty,.nil,.int .i64 0] = rowsL xs 0:=(rowsL_zero _).symm
  rw [ez]
  simp only [mvcgen_simp,method_specs_simp,seval]
 ·intro k hk
  refine CW.sound ?_
  simp only [method_specs_simp,seval]
  refine gB_split (fun h=>?_) (fun h=>?_)
  ·simp only [decide_eq_true_eq,Za] at h
   have hxk : xs[k]? = some xs[k]:=Zc h
   have hOK:=hx.2 _ (Zn h)
   generalize xs[k] = x at hxk hOK
   simp only [Zg,hxk,method_specs_simp,seval]
   refine ⟨by omega,by omega,by simp [encEv],?_⟩
   rw [show Zt 9 (encEv x) = encEv x from rfl]
   have hl : ((xs.take k).map obI).length = k:=by simp; omega
   refine clY.new (n_toEvent x hOK) (by simp only [method_specs_simp,encEv]) ?_
   simp only [method_specs_simp,seval,rowEv,hl]
   have e1 : (rowsL xs k).set k (V.int IntKind.i64 x.id :: V.int IntKind.i64 x.room :: V.int IntKind.i64 x.author :: V.int IntKind.i64 x.kind :: V.int IntKind.i64 x.key :: V.int IntKind.i64 x.n :: V.str x.text :: V.ar (k + 1) 0 x.prev.length :: V.int IntKind.i64 x.time :: ZY 9 ((rowsL xs k).getD k [])) = rowsL xs (k + 1):=by
    rw [rowsL_get h]; exact rowsL_set hxk
   refine ⟨by omega,by omega,by rw [rowsL_len hk]; exact h,by rw [ZA (by omega),hl,YF]; rfl,?_⟩
   rw [wrap_id (by omega) (by omega)]
   refine AgainJ.mk (k + 1) h (Zd h (Ze _)) ?_
   rw [e1,ZZ,hxk,YG,ZP,Yb,Yc]
   simp only [mvcgen_simp,method_specs_simp,seval]
  ·simp only [decide_eq_false_iff_not,Zb,Za] at h
   have hi : k = xs.length:=by omega
   subst hi
   rw [rowsL_all,ZD (Zl _)]
   rfl
def obG (g : Gr) : List Ob:=obE g.events ++ obEb (g.events.length + 1) g.parked
def grV (b : Nat) (g : Gr) : List V:=[.int .i64 g.room,.ar b 0 g.events.length,.ar (b + (g.events.length + 1)) 0 g.parked.length]
theorem obEb_ren (b c : Nat) (l : List Ev) : (obEb c l).map (Ob.ren (b + ·)) = obEb (b + c) l:=by
 unfold obEb
 simp only [Yb,Ob.ren,rowsEv_ren,List.map_map]
 rw [Nat.add_assoc]
 congr 1
 exact YZ fun e _=>obI_ren _ e
theorem obEb_refs {n b : Nat} (l : List Ev) (h : b + l.length < n) : ∀ ob ∈ obEb b l,ob.refs (· < n):=fun ob ho=>by
 rcases Zz.1 ho with rfl | ho
 ·exact rowsEv_refs (b + 1) l fun i h1 h2=>by omega
 ·obtain ⟨e,_,rfl⟩:=ZR.1 ho
  exact obI_refs _ e
theorem obG_len (g : Gr) : (obG g).length = g.events.length + 1 + (g.parked.length + 1):=by simp [obG,obE_len,obEb_len]
theorem obG_refs (g : Gr) : ∀ ob ∈ obG g,ob.refs (· < (obG g).length):=fun ob ho=>by
 rw [obG_len]
 rcases ZS.1 ho with ho | ho
 ·exact obE_refs _ (by omega) ob ho
 ·exact obEb_refs _ (by omega) ob ho
theorem obE_flat (l : List Ev) : ∀ ob ∈ obE l,ob.flat:=fun ob ho=>by
 rcases Zz.1 ho with rfl | ho
 ·refine ⟨rfl,?_⟩
  have : ∀ q (l : List Ev),Flatss (rowsEv q l):=fun q l=>by
   induction l generalizing q with
   | nil=>trivial
   | cons e l ih=>exact ⟨⟨trivial,trivial,trivial,trivial,trivial,trivial,trivial,trivial,trivial,trivial⟩,ih (q + 1)⟩
  exact this 1 l
 ·obtain ⟨e,_,rfl⟩:=ZR.1 ho
  exact ⟨rfl,flat_ints _⟩
theorem dcv_zero (m : List Ob) (xs : List V) : xs.map (dcv 0 m) = xs:=by
 induction xs with
 | nil=>rfl
 | cons x xs ih=>rw [Yb,ih]; rfl
theorem n_toGraph (g : Gr) (hg : GrOK g) : LCon P 38 [.agg (encGr g)] [] (.agg (grV 0 g)) (obG g):=by
 refine LCon.of (n:=16) (rs:=[.cell 2 69]) (Is.fn Try.func38) rfl (Is.call Try.call38) Try.results38 Try.ntmps38 ?_
 simp only [method_specs_simp,seval,encGr]
 refine clY.newD 0 (n_toEventS g.events hg.1) (dcv_zero _ _) (by simp only [method_specs_simp]) trivial (obE_flat _) ?_
 rw [obE_ren]
 simp only [method_specs_simp,seval,encGr,obEb]
 refine clY.newD 0 (n_toEventS g.parked hg.2) (dcv_zero _ _) (by simp only [method_specs_simp]) trivial (obE_flat _) ?_
 rw [obE_ren]
 simp only [method_specs_simp,seval,encGr,obEb]
 have hq : ∀ (o : Ob) (L : List Ob),(g.events.map obI ++ o :: L)[g.events.length]? = some o:=fun o L=>by
  rw [ZA (by simp),Yd,YF]; rfl
 refine ⟨by unfold arrAt; rw [hq]; rfl,by rw [hq],by rw [hq],?_⟩
 refine LResY.tail3 ?_ ?_ (obG_refs g) ?_
 ·unfold obG
  rw [ZP,obE_ren,obEb_ren]
  unfold obEb
  simp only [ZL,ZK,ZF,Zx,Yv]
  rw [show g.events.length + 1 + 1 + 1 + 1 + 1 = 3 + (g.events.length + 1) + 1 by omega]
 ·simp only [grV,V.ren,rens,ZL,ZK,Yv]
  rw [show 3 + (g.events.length + 1) = g.events.length + 4 by omega]
 ·rw [obG_len]
  exact ⟨trivial,by show 0 < _; omega,by show 0 + (g.events.length + 1) < _; omega,trivial⟩
def mGr (k : Int) (g : Gr) : Gr:=⟨g.room,mEvs k g.events,mEvs (k + wM g.events) g.parked⟩
end
@[method_specs_simp] theorem encGr_take (g : Gr) : Zt 3 (encGr g) = encGr g:=nr rfl
@[method_specs_simp] theorem encGr_three (g : Gr) : (3 ≤ (encGr g).length) = True:=eq_true (Zl 3)
section
variable {P : Program} [Is P]
theorem zE_ok : EvOK zE:=⟨by decide,by decide⟩
theorem at_ok {g : Gr} (hg : GrOK g) (id : Int) : EvOK ((atE g.events id).getD zE):=by
 cases h : atE g.events id with
 | none=>exact zE_ok
 | some e=>exact hg.1.2 e (List.mem_of_find?_eq_some h)
end
end Go.Proofs.Ytnlobbbbgcdiiaa
end
