/- The abstract machine: drawn regions in which looks at what nobody writes any more may come late. The abstract machine: what an array holds is told anew, where it names what is frozen. The reference's order of trial. Conditions: a right graph. The reference's merging of states, and that it comes to the program's. Conditions: a right graph, states of it. The reference's merging of states, walked. Conditions: a right graph, states of it. All of a right graph, as the reference reckons it. Conditions: a right graph. Why an event is refused: both sides, and the law. Conditions: sizes that fit a machine. States ahead of and behind an event: both sides, and the laws. Conditions: sizes that fit a machine. Lists of numbers: striking those that answer a closure. Conditions: lengths that fit a machine. The ends of a history, as the program finds them. Conditions: a right graph. The ends and the current state: the reference, and both laws. Conditions: sizes that fit a machine. The ends and the current state: both laws. Conditions: sizes that fit a machine. Hubs, and what the laws do with them. Conditions: sizes that an input has. Maps of spots; the server of a hub. What the reference model reckons of a hub. Whether a stream fits the rooms, as the reference model reckons it. Whether a hub is right, as the reference model reckons it. Both models find the same hubs right. The law of PosOf. The law of HiddenBy. The law of HiddenBy: the first of the stream that hides is the one with the least  -/
import Derived.Test.YtiafnciiieofmaaGreatT5
set_option linter.unusedSimpArgs false
set_option linter.unusedVariables false
set_option maxRecDepth 10000
set_option maxHeartbeats 4000000
open Int renaming ofNat_lt → Za, le_refl → Yp
open Nat renaming lt_succ_self → Zb, sub_lt_sub_left → Zc, zero_le → Zi, le_refl → Zj, sub_self → ZT, le_trans → ZW, beq → Yc, lt_succ_iff_lt_or_eq → Yq, add_zero → Yr, add_assoc → Ys, not_lt_zero → YC, zero_add → YN, eq_of_beq_eq_true → YZ, lt_trichotomy → Wc, eq_zero_or_pos → Wf
open List renaming getElem?_eq_getElem → Zd, take_add_one → Zf, mem_of_getElem? → Zg, contains_iff_mem → Zk, length_map → Zl, all_eq_true → Zn, getElem?_eq_some_iff → Zp, length_take → Zq, take_length → Zr, replicate → Zs, take_of_length_le → Zt, map_append → Zu, getElem?_of_mem → Zx, mem_cons → Zy, append_nil → Zz, mem_append → ZA, length_append → ZB, getElem?_map → ZC, mem_cons_self → ZD, length_cons → ZF, getD_eq_getElem?_getD → ZG, mem_map → ZI, append_assoc → ZJ, mem_filter → ZK, take → ZL, cons_append → ZM, mem_cons_of_mem → ZN, map_cons → ZO, drop → ZP, getElem?_append_right → ZQ, getElem?_set_ne → ZV, length_nil → ZX, nil_append → ZY, mem_singleton → Ya, getElem?_take_of_lt → Yb, getElem?_set_self → Yd, foldl_append → Ye, filter_sublist → Yf, map_nil → Yh, mem_zipIdx_iff_getElem? → Yi, replicate_succ → Yk, getElem?_cons_succ → Yl, any_eq_false → Ym, length_filter_le → Yn, any_eq_true → Yu, find?_eq_none → Yv, mem_of_find?_eq_some → Yw, mem_of_mem_take → Yx, filter_congr → Yz, filter_append → YA, getElem_mem → YB, not_mem_nil → YD, filter_cons → YE, filter_nil → YF, getElem?_replicate → YG, getElem?_cons_zero → YI, take_append_drop → YJ, foldl_cons → YK, perm_ext_iff_of_nodup → YL, mem_flatten → YM, take_zero → YO, drop_zero → YP, map_singleton → YQ, map_const' → YR, filter_eq_self → YS, set_append_right → YT, set_cons_zero → YU, all_append → YV, length_replicate → Wa, replicate_append_replicate → Wb, pairwise_map → We, map_congr_left → Wg, filter_filter → Wh, idxOf_append → Wi, length_singleton → Wj, pairwise_iff_getElem → Wl, pairwise_flatMap → Wm, flatMap_cons → Wn, idxOf_lt_length_of_mem → Wo, find?_append → Wp
open Bool renaming not_true → Ze, and_eq_true → Zm, bne_true → Zv, bne_false → Zw, eq_iff_iff → ZE, true_and → ZH, not_eq_true' → ZR, false_and → ZS, and_false → ZZ, false_eq_true → Yg, not_eq_true → Yj, or_eq_true → Yt, false_or → YX, not_eq_false → Wd
open Option renaming toList_some → Zh, map_some → Yo, isSome_iff_exists → Yy, getD_some → YW
open Array renaming getD_eq_getD_getElem? → ZU, getElem?_eq_getElem → YH, mem_toList_iff → YY
section
section
namespace Go.Pm
open Go.RowKit
inductive RdB {α : Type} (B : Nat → Prop) : Sem α → Prop
 | pure (a : α) : RdB B (.pure a)
 | load {m : Mode} {a : Addr} {k : Value → Sem α} : B a.block → (∀ v,RdB B (k v)) → RdB B (.load m a k)
 | shape {r : Nat} {k : Option (TypeId × Nat) → Sem α} : B r → (∀ v,RdB B (k v)) → RdB B (.shape r k)
 | program {k : Program → Sem α} : (∀ p,RdB B (k p)) → RdB B (.program k)
 | obj {r : Nat} {k : Obj → Sem α} : B r → (∀ o,RdB B (k o)) → RdB B (.getObj r k)
 | halt (h : Halt) : RdB B (.halt h)
 | never {s : Sem α} (h : ∀ (P : Program) (w : World) (x : α) (w1 : World),s.run P w ≠ .ok x w1) : RdB B s
theorem RdB.bind {α β : Type} {B : Nat → Prop} {s : Sem α} {f : α → Sem β} (hs : RdB B s) (hf : ∀ a,RdB B (f a)) : RdB B (s.bind f):=by
 induction hs with
 | pure a=>exact hf a
 | load hb _ ih=>exact .load hb fun v=>ih v
 | shape hb _ ih=>exact .shape hb fun v=>ih v
 | program _ ih=>exact .program fun v=>ih v
 | obj hb _ ih=>exact .obj hb fun v=>ih v
 | halt h=>exact .halt h
 | @never s h =>
  refine .never fun P w x w1 e=>?_
  have e : (s >>= f).run P w = .ok x w1:=e
  rw [Sem.run_bind] at e
  cases hs : s.run P w with
  | ok y w2=>exact h P w y w2 hs
  | halt y w2=>rw [hs] at e; cases e
def SameB (w w' : World) (b : Nat) : Prop:=w'.heap[b]? = w.heap[b]? ∧ ∃ us e fr,w.heap[b]? = some (.cells us e fr)
theorem RdB.run {α : Type} {B : Nat → Prop} {s : Sem α} (hs : RdB B s) {P : Program} {w w' w1 : World} {x : α} (hk : ∀ b,B b → SameB w w' b) (h : s.run P w = .ok x w1) : w1 = w ∧ s.run P w' = .ok x w':=by
 induction hs with
 | pure a =>
  simp only [Sem.run] at h ⊢
  injection h with h1 h2
  exact ⟨h2.symm,by rw [h1]⟩
 | @load m a k hb _ ih =>
  obtain ⟨e1,us,el,fr,e2⟩:=hk _ hb
  have hc : w'.cell? a = w.cell? a:=by unfold World.cell?; rw [e1]
  simp only [Sem.run] at h ⊢
  rw [hc]
  cases hv : w.cell? a with
  | some v=>rw [hv] at h; exact ih v h
  | none =>
   exfalso
   rw [hv] at h
   simp only at h
   unfold World.farLoad at h
   rw [e2] at h
   cases h
 | @shape r k hb _ ih =>
  simp only [Sem.run] at h ⊢
  have : w'.shape? r = w.shape? r:=by unfold World.shape?; rw [(hk _ hb).1]
  rw [this]
  exact ih _ h
 | @program k _ ih =>
  simp only [Sem.run] at h ⊢
  exact ih _ h
 | @obj r k hb _ ih =>
  simp only [Sem.run] at h ⊢
  rw [(hk _ hb).1]
  split at h
  ·cases h
  ·rename_i o hn ho
   exact ih _ h
  ·cases h
 | halt e=>simp only [Sem.run] at h; cases h
 | never hn=>exact absurd h (hn _ _ _ _)
section
variable {B : Nat → Prop}
theorem rb_program : RdB B program:=.program fun p=>.pure p
theorem rb_typeInfo (t : TypeId) : RdB B (typeInfo t):=rb_program.bind fun p=>by
 split
 ·exact .pure _
 ·exact .halt _
theorem rb_underlying (t : TypeId) : RdB B (underlying t):=rb_program.bind fun p=>by
 split
 ·exact .pure _
 ·exact .halt _
theorem rb_sizeOf (t : TypeId) : RdB B (sizeOf t):=(rb_typeInfo t).bind fun i=>.pure _
theorem rb_isAgg (t : TypeId) : RdB B (isAgg t):=(rb_underlying t).bind fun d=>by
 split <;> exact .pure _
theorem rb_load {a : Addr} (h : B a.block) : RdB B (load a):=.load h fun v=>.pure v
theorem add_block (a : Addr) (n : Nat) : (a.add n).block = a.block:=by
 unfold Addr.add
 split <;> rfl
theorem rb_loadCells {a : Addr} (h : B a.block) : ∀ (n i : Nat) (acc : Array Value),RdB B (loadCellsFrom a i n acc)
 | 0,i,acc=>.pure _
 | n + 1,i,acc=>(rb_load (by rw [add_block]; exact h)).bind fun v=>rb_loadCells h n (i + 1) _
theorem rb_loadVar (t : TypeId) {a : Addr} (h : B a.block) : RdB B (loadVar t a):=(rb_isAgg t).bind fun b=>by
 cases b
 ·exact rb_load h
 ·exact (rb_sizeOf t).bind fun n=>(rb_loadCells h n 0 #[]).bind fun cs=>.pure _
theorem rb_loadAt (t : TypeId) {a : Addr} (h : B a.block) : RdB B (Instr.loadAt t (.pointer (some a))):=by
 show RdB B (loadVar t a)
 exact rb_loadVar t h
theorem rb_noView {a : Addr} (h : B a.block) : RdB B (noView a):=by
 unfold noView
 refine RdB.bind ?_ fun x=>?_
 ·unfold viewAt
  refine RdB.bind (.shape h fun v=>.pure v) fun y=>?_
  split
  ·exact .pure _
  ·show RdB B (Sem.getObj a.block fun o=>(Sem.pure o).bind _)
   refine .obj h fun o=>?_
   simp only [Sem.bind]
   split <;> exact .pure _
 ·split
  ·exact .halt _
  ·exact .pure _
theorem rb_byteOf {a : Addr} (h : B a.block) : RdB B (byteOf a):=by
 unfold byteOf
 split
 ·exact .pure _
 ·refine rb_program.bind fun p=>(rb_noView h).bind fun _=>?_
  refine RdB.bind (.shape h fun v=>.pure v) fun x=>?_
  split
  ·simp only
   split
   ·exact .pure _
   ·split
    ·exact .pure _
    ·exact .halt _
  ·exact .halt _
theorem rb_fieldPlace {a : Addr} (h : B a.block) (f : Field) : RdB B (fieldPlace a f):=by
 unfold fieldPlace
 refine (rb_sizeOf _).bind fun n=>?_
 split
 ·unfold partAt
  exact (rb_byteOf h).bind fun b=>(rb_byteOf (by first | exact h | (rw [add_block]; exact h))).bind fun b2=>.pure _
 ·exact .pure _
theorem rb_fieldAt (s : TypeId) {a : Addr} (h : B a.block) (i : Nat) : RdB B (Instr.fieldAt s (.pointer (some a)) i):=by
 unfold Instr.fieldAt
 refine (rb_underlying s).bind fun d=>?_
 split
 ·split
  ·exact (rb_fieldPlace h _).bind fun a=>.pure _
  ·exact .halt _
 ·exact .halt _
theorem rb_extract (v : Value) (i : Nat) : RdB B (Instr.extract v i):=by
 unfold Instr.extract
 split
 ·split
  ·exact .pure _
  ·exact .halt _
 ·exact .halt _
theorem rb_asIntOf (v : Value) : RdB B (asIntOf v):=by
 unfold asIntOf
 split
 ·exact .pure _
 ·exact .halt _
 ·exact .halt _
theorem rb_sureAddr (v : Value) : RdB B (Instr.sureAddr v):=by
 unfold Instr.sureAddr
 split
 ·exact .pure _
 ·exact .halt _
theorem never_rt {α : Type} (a b : Int) (s : Bool) (c : BoundsCode) (P : Program) (w : World) (r : α) (w1 : World) : (runtimePanic (.bounds a b s c) : Sem α).run P w ≠ .ok r w1:=fun e=>by
 unfold runtimePanic goPanic at e
 rw [Sem.run_bind] at e
 cases hs : Sem.run P program w with
 | ok y w2=>rw [hs] at e; cases e
 | halt y w2=>rw [hs] at e; cases e
theorem never_bounds {α : Type} (k : IntKind) (x y : Int) (c : BoundsCode) : RdB B (boundsPanic (α:=α) k x y c):=.never fun P w r w1 e=>by
 unfold boundsPanic at e
 simp only at e
 split at e
 ·rw [Sem.run_bind] at e
  cases hs : Sem.run P ((fun x => x == 1) <$> choose (.extern "runtime.boundsError.signed" 2)) w with
  | ok y w2=>rw [hs] at e; exact never_rt _ _ _ _ _ _ _ _ e
  | halt y w2=>rw [hs] at e; cases e
 ·rw [Sem.run_bind] at e
  exact never_rt _ _ _ _ _ _ _ _ e
theorem rb_indexAt (t : TypeId) (x i : Value) : RdB B (Instr.indexAt t x i):=by
 unfold Instr.indexAt
 refine (rb_asIntOf _).bind fun ki=>?_
 refine (rb_underlying t).bind fun d=>?_
 split
 ·refine (rb_sureAddr _).bind fun a=>(RdB.pure _).bind fun z=>?_
  obtain ⟨base,len,elem⟩:=z
  refine (rb_underlying t).bind fun d=>?_
  simp only
  cases base with
  | none=>exact never_bounds _ _ _ _
  | some a =>
   simp only
   split
   ·exact (rb_sizeOf _).bind fun n=>.pure _
   ·split <;> (split <;> first | exact .halt _ | exact never_bounds _ _ _ _)
 ·refine (RdB.pure _).bind fun z=>?_
  obtain ⟨base,len,elem⟩:=z
  refine (rb_underlying t).bind fun d=>?_
  simp only
  cases base with
  | none=>exact never_bounds _ _ _ _
  | some a =>
   simp only
   split
   ·exact (rb_sizeOf _).bind fun n=>.pure _
   ·split <;> (split <;> first | exact .halt _ | exact never_bounds _ _ _ _)
 ·exact .halt _
def lookP (B : Nat → Prop) (ev : Operand → Value) : Op → Prop
 | .move _=>True
 | .extract _ _=>True
 | .indexAddr _ _ _=>True
 | .nilCheck x=>∃ a,ev x = .pointer (some a)
 | .fieldAddr _ x _=>∃ a,ev x = .pointer (some a) ∧ B a.block
 | .load _ x=>∃ a,ev x = .pointer (some a) ∧ B a.block
 | _=>False
theorem lookP_run {P : Program} {o : Oper} {ev : Operand → Value} (hk : lookP B ev o.op) {w w1 w' : World} {x : Next} (hw : ∀ b,B b → SameB w w' b) (h : (execOp ev o).run P w = .ok x w1) : ∃ v,x = .value v ∧ w1 = w ∧ (execOp ev o).run P w' = .ok (.value v) w':=by
 have key : ∀ s : Sem Value,RdB B s → ((do pure (.value (← s)) : Sem Next)).run P w = .ok x w1 → ∃ v,x = .value v ∧ w1 = w ∧ ((do pure (.value (← s)) : Sem Next)).run P w' = .ok (.value v) w':=by
  intro s hs h
  have hr : RdB B (do pure (.value (← s)) : Sem Next):=hs.bind fun v=>.pure _
  obtain ⟨h1,h2⟩:=hr.run hw h
  rw [Sem.run_bind] at h
  cases hv : s.run P w with
  | halt e w2=>rw [hv] at h; cases h
  | ok v w2 =>
   rw [hv,Result.andThen_ok] at h
   simp only [Sem.run_pure] at h
   injection h with h3 h4
   subst h3
   exact ⟨v,rfl,h1,h2⟩
 cases hop : o.op <;> rw [hop] at hk <;> first | (cases hk; done) | skip
 ·rename_i y
  simp only [execOp,hop] at h ⊢
  simp only [Sem.run_pure] at h ⊢
  injection h with h1 h2
  exact ⟨_,h1.symm,h2.symm,rfl⟩
 ·rename_i t y
  obtain ⟨a,e,hb⟩:=hk
  simp only [execOp,hop] at h ⊢
  rw [e] at h ⊢
  exact key _ (rb_loadAt _ hb) h
 ·rename_i y
  obtain ⟨a,e⟩:=hk
  simp only [execOp,hop,e] at h ⊢
  simp only [Sem.run_pure] at h ⊢
  injection h with h1 h2
  exact ⟨_,h1.symm,h2.symm,rfl⟩
 ·rename_i t y i
  obtain ⟨a,e,hb⟩:=hk
  simp only [execOp,hop] at h ⊢
  rw [e] at h ⊢
  exact key _ (rb_fieldAt _ hb _) h
 ·simp only [execOp,hop] at h ⊢
  exact key _ (rb_indexAt _ _ _) h
 ·simp only [execOp,hop] at h ⊢
  exact key _ (rb_extract _ _) h
end
def frzX : V → Prop
 | .fptr cs _=>0 < cs.length
 | .sptr sz xs i _=>0 < sz ∧ i < xs.length
 | _=>False
theorem cell_cells {w : World} {a : Addr} {u : Value} (h : w.cell? a = some u) : ∃ us e fr,w.heap[a.block]? = some (.cells us e fr):=by
 unfold World.cell? at h
 cases hb : w.heap[a.block]? with
 | none=>rw [hb] at h; simp at h
 | some o=>cases o <;> rw [hb] at h <;> first | exact ⟨_,_,_,rfl⟩ | simp at h
theorem frz_ptr {c : Cx} {x : V} {v : Value} (h : RV c x v) (hx : frzX x) : ∃ a,v = .pointer (some a) ∧ c.fz a.block ∧ ∃ us e fr,c.w.heap[a.block]? = some (.cells us e fr):=by
 cases x <;> first | exact hx.elim | skip
 ·rename_i sz xs i off
  obtain ⟨h1,h2⟩ : 0 < sz ∧ i < xs.length:=hx
  obtain ⟨b,o,e,hf,hr⟩:=h
  refine ⟨_,e,hf,?_⟩
  obtain ⟨g1,g2⟩:=hr.get i (Zd h2)
  obtain ⟨u,g3,_⟩:=g2.get 0 (Zd (by omega))
  have:=cell_cells g3; exact this
 ·rename_i cs off
  obtain ⟨b,e,hf,hr⟩:=h
  refine ⟨_,e,hf,?_⟩
  obtain ⟨u,g3,_⟩:=hr.get 0 (Zd hx)
  have:=cell_cells g3; exact this
def opX (ev : Operand → V) : Op → Prop
 | .move _=>True
 | .extract _ _=>True
 | .indexAddr _ _ _=>True
 | .nilCheck x=>frzX (ev x)
 | .fieldAddr _ x _=>frzX (ev x)
 | .load _ x=>frzX (ev x)
 | _=>False
def FLi (P : Program) : List Oper → St → Prop
 | [],st=>st.m = []
 | o :: os,st=>opX (St.ev st.t) o.op ∧ T1 P o st (fun st'=>FLi P os st')
def pickM : Option Oper → List Oper → List Oper
 | some o,os=>o :: os
 | none,os=>os
def pickO (os : List Oper) : List Nat → List Oper
 | []=>[]
 | f :: fl=>pickM os[f]? (pickO os fl)
def FL (P : Program) (ops : Array Oper) (fl : List Nat) (t : List V) : Prop:=FLi P (pickO ops.toList fl) ⟨t,[],[]⟩
theorem FLi_m {P : Program} : ∀ (os : List Oper) (st : St),FLi P os st → st.m = []
 | [],_,h=>h
 | o :: os,st,⟨_,h⟩=>by
   obtain ⟨r,new,_,h2⟩:=Q1_sound (o:=o) h
   have:=FLi_m os _ h2
   exact (List.append_eq_nil_iff.1 this).1
section
variable {P : Program} {os : List Oper} {t : List V} {gs : List V} {o : Oper} {m : List Ob} {ops : Array Oper} {fl : List Nat} {ev : Operand → V}
@[method_specs_simp] theorem FL_eq : FL P os.toArray fl t = FLi P (pickO os fl) ⟨t,[],[]⟩:=nr rfl
@[method_specs_simp] theorem FLi_cons : FLi P (o :: os) ⟨t,m,gs⟩ = (opX (St.ev t) o.op ∧ T1 P o ⟨t,m,gs⟩ (fun st'=>FLi P os st')):=nr rfl
@[method_specs_simp] theorem FLi_nil : FLi P [] ⟨t,[],gs⟩ = True:=eq_true rfl
@[method_specs_simp] theorem pick_cons {f : Nat} : pickO os (f :: fl) = pickM os[f]? (pickO os fl):=nr rfl
@[method_specs_simp] theorem pick_nil : pickO os [] = []:=nr rfl
@[method_specs_simp] theorem pick_some {o : Oper} : pickM (some o) os = o :: os:=nr rfl
@[method_specs_simp] theorem opX_load {u : TypeId} {x : Operand} : opX ev (.load u x) = frzX (ev x):=nr rfl
@[method_specs_simp] theorem opX_nil {x : Operand} : opX ev (.nilCheck x) = frzX (ev x):=nr rfl
@[method_specs_simp] theorem opX_field {u i : Nat} {x : Operand} : opX ev (.fieldAddr u x i) = frzX (ev x):=nr rfl
@[method_specs_simp] theorem opX_move {x : Operand} : opX ev (.move x) = True:=nr rfl
@[method_specs_simp] theorem opX_index {u : TypeId} {x y : Operand} : opX ev (.indexAddr u x y) = True:=nr rfl
@[method_specs_simp] theorem frzX_fptr {c : V} {cs : List V} {off : Nat} : frzX (.fptr (c :: cs) off) = True:=eq_true (Nat.succ_pos _)
@[method_specs_simp] theorem frzX_sptr {sz i off : Nat} {xs : List (List V)} : frzX (.sptr sz xs i off) = (0 < sz ∧ i < xs.length):=nr rfl
end
def fltS (ops : Array Oper) : List Nat → List Nat → Bool
 | _,[]=>true
 | done,f :: fs=>!(fs.contains f) && fltS ops (f :: done) fs && (match ops[f]? with
   | some o=>o.guard.isNone && (o.after.toList.all fun e=>!Region.binds .any e || done.contains e.on) && ((List.range ops.size).all fun j=>Yc j f || done.contains j || (match ops[j]? with
     | some oj=>(oj.after.toList.any fun e=>Region.binds .any e && Yc e.on f) || o.apart ops oj
     | none=>true))
   | none=>false)
section
variable {P : Program} {ops : Array Oper} {K : St → Prop} {w0 : World} {E Zo : Nat → Prop} {gh : List Value} {Q : Exit → Act → World → Prop}
theorem head_held {S : World → Prop} {k : Nat} {st st' : St} {rs : List Res} {fl : List Nat} (A : Any ops fl k) (hS : ∀ st a w,Rel w0 E Zo gh st a w → S w) (hQ : ∀ st a w,K st → Rel w0 E Zo gh st a w → Q .normal a w)
  (hrun : Run P (dsts ops) (ops.toList.take k) st rs st') (htail : RS P (dsts ops) (ops.toList.drop k) st' K) :
  ∀ (fuel : Nat) (F : List Bool) (a : Act) (w : World),F.length = k → left F + (ops.size - k) ≤ fuel → (∀ i,F[i]? = some true → ∀ j ∈ waits ops i,F[j]? = some true) → (∀ f ∈ fl,F[f]? = some true) →
   Part ops k st rs w0 E Zo gh F a w → wpAnyH P .any ops Q S fuel (lay0 ops.size F) a w:=by
 have hlenk : (ops.toList.take k).length = k:=by simp [A.le]
 have hrl : rs.length = k:=by rw [hrun.len,hlenk]
 have htl : ∀ (fuel : Nat) (a : Act) (w : World),ops.size - k ≤ fuel → Rel w0 E Zo gh st' a w → wpAnyH P .any ops Q S fuel (flags ops.size k) a w:=fun fuel a w hfu r =>
  tail_held A hQ (fun i o st K a w _ _ hS1 _ r=>Oper.wp_mono (fun a w h=>⟨(by obtain ⟨st'',_,h2⟩:=h; exact hS _ _ _ h2),h⟩) (S1_sound hS1 w0 E Zo gh a w _ r)) fuel k st' a w (Zj _) A.le (by omega) htail (hS _ _ _ r) r
 intro fuel
 induction fuel with
 | zero =>
  intro F a w hF hl hc hfl r
  have h0 : left F = 0:=by omega
  have hall:=left_zero h0
  rw [hF] at hall
  subst hall
  rw [lay0_all A.le]
  refine htl 0 a w (by omega) ?_
  rw [hrun.fin,hlenk]
  exact r
 | succ fuel ih =>
  intro F a w hF hl hc hfl r
  by_cases h0 : left F = 0
  ·have hall:=left_zero h0
   rw [hF] at hall
   subst hall
   rw [lay0_all A.le]
   refine htl (fuel + 1) a w (by omega) ?_
   rw [hrun.fin,hlenk]
   exact r
  ·refine ⟨fun hr=>?_,fun i hi=>?_⟩
   ·exfalso
    refine h0 ?_
    have hsz : (lay0 ops.size F).size = ops.size:=by have:=A.le; simp [lay0]; omega
    have:=ready_some hsz A.early hr
    have hF' : F = Zs F.length true:=all_true fun j hj=>by rw [← lay0_get hj]; exact this j (by have:=A.le; omega)
    rw [hF']
    exact left_rep _
   ·obtain ⟨h1,h2,h3⟩:=ready_waits hi
    have hik : i < k:=by
     by_cases hik : i < k
     ·exact hik
     ·exfalso
      refine h0 ?_
      have hw3 : ∀ l ∈ waits ops i,F[l]? = some true:=by
       intro l hl2
       have:=h3 l hl2
       by_cases hlk : l < F.length
       ·rw [ZU,lay0_get hlk] at this
        cases hb : F[l]? with
        | none=>rw [hb] at this; cases this
        | some b=>rw [hb] at this; simpa using this
       ·exfalso
        rw [ZU] at this
        unfold lay0 at this
        rw [List.getElem?_toArray,ZQ (by omega),YG] at this
        split at this <;> simp at this
      have hanc0 : ∀ {a b : Nat},Anc ops a b → (∀ l ∈ waits ops a,F[l]? = some true) → F[b]? = some true:=by
       intro a b h
       induction h with
       | one h=>exact fun hw=>hw _ h
       | more h _ ih=>exact fun hw=>ih (hc _ (hw _ h))
      have hF' : F = Zs F.length true:=all_true fun j hj=>by
       by_cases hjf : j ∈ fl
       ·exact hfl j hjf
       ·exact hanc0 (A.tail i (by omega) h2 j (by omega) hjf) hw3
      rw [hF']
      exact left_rep _
    have hiF : F[i]? = some false:=by
     rw [ZU,lay0_get (by omega)] at h1
     have hlt : i < F.length:=by omega
     rw [Zd hlt] at h1 ⊢
     simpa using h1
    have h3' : ∀ j ∈ waits ops i,F[j]? = some true:=by
     intro j hj
     have hj2:=A.early i h2 j hj
     have:=h3 j hj
     rw [ZU,lay0_get (by omega)] at this
     cases hb : F[j]? with
     | none=>rw [hb] at this; cases this
     | some b=>rw [hb] at this; simpa using this
    rw [lay0_set (by omega)]
    have hnext : ∀ (a' : Act) (w' : World),Part ops k st rs w0 E Zo gh (F.set i true) a' w' → S w' ∧ wpAnyH P .any ops Q S fuel (lay0 ops.size (F.set i true)) a' w':=by
     intro a' w' hp
     refine ⟨hS _ _ _ hp,?_⟩
     refine ih (F.set i true) a' w' (by simpa using hF) (by have:=left_set hiF; omega) ?_ (fun f hf=>?_) hp
     rotate_left
     ·by_cases e : f = i
      ·subst e; rw [Yd (by omega)]
      ·rw [ZV (fun q=>e q.symm)]; exact hfl f hf
     intro j hj l hl
     by_cases e : j = i
     ·subst e
      have hlj:=A.early j h2 l hl
      rw [ZV (by omega)]
      exact h3' l hl
     ·rw [ZV (fun q=>e q.symm)] at hj
      have:=hc j hj l hl
      by_cases e2 : l = i
      ·subst e2
       rw [Yd (by omega)]
      ·rw [ZV (fun q=>e2 q.symm)]
       exact this
    rcases head_step (Q:=Q) A hrun hF hc r hik h2 hiF h3' hnext with ⟨hw,h⟩ | ⟨hw,h⟩
    ·unfold wpOp
     rw [YH h2]
     simp only
     rw [if_pos hw]
     exact .inl h
    ·unfold wpOp
     rw [YH h2]
     simp only
     rw [if_neg (by rw [hw]; decide)]
     exact h
theorem live_keep {w : World} {Zo : Nat → Prop} {m : List Ob} {β β' : List Lc} (h : (cx w Zo m β).le (cx w Zo m β')) {b : Nat} (k : liveAt m β b) : liveAt m β' b:=by
 obtain ⟨o,ob,l,h1,h2,h3⟩:=k
 have ho:=h.ob o trivial
 have ho : obLe m[o]? β[o]? m[o]? β'[o]?:=ho
 rw [h1,h2] at ho
 cases ob with
 | hole=>simp [Ob.blk] at h3
 | dead=>simp [Ob.blk] at h3
 | box lv cs =>
  rcases ho with ho | ⟨lv',cs',l',e1,e2,e3⟩
  ·cases ho
  ·refine ⟨o,_,l',h1,e2,?_⟩
   cases lv
   ·simp [Ob.blk] at h3
   ·simp only [Ob.blk,Option.some.injEq] at h3 ⊢; rw [e3]; exact h3
 | arr lv sz xs =>
  rcases ho with ho | ⟨lv',xs',e1,e2,e3⟩
  ·cases ho
  ·exact ⟨o,_,l,h1,e2,h3⟩
 | mp lv ks vs =>
  rcases ho with ho | ⟨lv',ks',vs',l',e1,e2,e3⟩
  ·cases ho
  ·refine ⟨o,_,l',h1,e2,?_⟩
   cases lv
   ·simp [Ob.blk] at h3
   ·simp only [Ob.blk,Option.some.injEq] at h3 ⊢; rw [e3]; exact h3
theorem flt_soundK {fl : List Nat} {k : Nat} {st st' : St} {rs : List Res} {wb : World} {β0 : List Lc} (A : Any ops fl k) (hQ : ∀ st2 a w,K st2 → Rel wb (liveAt st.m β0) Zo gh st2 a w → Q .normal a w) (hns : noSel ops = true) (hP : ∀ c a w,¬ Q (.panic c) a w)
  (hrun : Run P (dsts ops) (ops.toList.take k) st rs st') (htail : RS P (dsts ops) (ops.toList.drop k) st' K) :
  ∀ (todo done : List Nat) (fuel : Nat) (F : List Bool) (a : Act) (t : List V) (β : List Lc),fltS ops done todo = true → FL P ops todo t → Mem wb Zo st.m β → (cx wb Zo st.m β0).le (cx wb Zo st.m β) → RVs (cx wb Zo st.m β) t a.tmps.toList →
   (∀ g ∈ done,F[g]? = some true) → (∀ g ∈ done,g < k) → (∀ f ∈ todo,f < k) → F.length = k →
   left F + (ops.size - k) ≤ fuel → (∀ i,F[i]? = some true → ∀ j ∈ waits ops i,F[j]? = some true) →
   (∀ f ∈ todo,F[f]? = some false) → (∀ f ∈ fl,f ∈ todo ∨ F[f]? = some true) → Part ops k st rs wb (liveAt st.m β0) Zo gh F a wb → wpAnyH P .any ops Q (fun w=>Frame (liveAt st.m β0) wb w) fuel (lay0 ops.size F) a wb
 | [],done,fuel,F,a,t,β,_,_,_,_,_,_,_,_,hF,hl,hc,_,hfl,r=>head_held A (fun _ _ _ ⟨_,_,_,h,_⟩=>h) hQ hrun htail fuel F a wb hF hl hc (fun f hf=>(hfl f hf).resolve_left (by simp)) r
 | f :: todo,done,fuel,F,a,t,β,hb,hv,M,hle,ht,hd,hdk,hk,hF,hl,hc,hf,hfl,r=>by
   have hfF:=hf f ZD
   have hfk:=hk f ZD
   have hleft:=left_set hfF
   obtain ⟨fuel,rfl⟩ : ∃ n,fuel = n + 1:=⟨fuel - 1,by omega⟩
   have hsz : f < ops.size:=by have:=A.le; omega
   have ho : ops[f]? = some ops[f]:=YH hsz
   unfold fltS at hb
   unfold FL at hv
   have ho' : ops.toList[f]? = some ops[f]:=by rw [Array.getElem?_toList]; exact ho
   rw [pickO,ho'] at hv
   rw [ho] at hb
   obtain ⟨hv1,hv2⟩:=hv
   have hv2 : Q1 P (ops[f]).op (St.ev t) [] 0 (fun r new=>FLi P (pickO ops.toList todo) ⟨putT t (ops[f]).dst r,[] ++ new,[]⟩):=hv2
   simp only [Zm,ZR] at hb
   obtain ⟨⟨hb1,hb2⟩,⟨hb4,hb5⟩,hb6⟩:=hb
   have hfn : f ∉ todo:=fun h=>by have:=Zk.2 h; rw [hb1] at this; cases this
   have hg : (ops[f]).guard = none:=by simpa using hb4
   have hw : ∀ j ∈ waits ops f,j ∈ done:=by
    intro j hj
    obtain ⟨e,he,hbe,rfl⟩:=(waits_spec ho).1 hj
    have:=Zn.1 hb5 e (YY.2 he)
    rw [hbe] at this
    simpa using this
   have hwant : Region.wanted ops[f] (yielded ops a.tmps) = true:=by unfold Region.wanted; rw [hg]
   have hfz : ∀ b,(cx wb Zo st.m β).fz b → b < wb.heap.size ∧ ¬ liveAt st.m β0 b:=fun b h=>⟨h.1,fun hl=>h.2 (.inr (live_keep hle hl))⟩
   have hlook : lookP (fun b=>(b < wb.heap.size ∧ ¬ liveAt st.m β0 b) ∧ ∃ us e fr,wb.heap[b]? = some (.cells us e fr)) a.eval (ops[f]).op:=by
    cases hop : (ops[f]).op <;> rw [hop] at hv1 <;> first | exact hv1.elim | trivial | skip
    case load u x =>
     obtain ⟨A,e,h1,h2⟩:=frz_ptr (ev_RV ht x) hv1
     exact ⟨A,e,hfz _ h1,h2⟩
    case nilCheck x =>
     obtain ⟨A,e,h1,h2⟩:=frz_ptr (ev_RV ht x) hv1
     exact ⟨A,e⟩
    case fieldAddr u x i =>
     obtain ⟨A,e,h1,h2⟩:=frz_ptr (ev_RV ht x) hv1
     exact ⟨A,e,hfz _ h1,h2⟩
   have hsame : ∀ w',Frame (liveAt st.m β0) wb w' → ∀ b,((b < wb.heap.size ∧ ¬ liveAt st.m β0 b) ∧ ∃ us e fr,wb.heap[b]? = some (.cells us e fr)) → SameB wb w' b:=fun w' hS b h=>⟨hS.block b h.1.1 h.1.2,h.2⟩
   obtain ⟨rv,new,hqs,hv3⟩:=Q1_sound hv2
   have hnew : new = []:=FLi_m _ _ hv3
   subst hnew
   have hwp:=hqs wb Zo st.m β a (fun _ _ _=>False) M (fun o ob h=>by simp at h) (fun x _=>ev_RV ht x) (fun j hj=>by simp at hj)
   unfold Oper.wp at hwp
   obtain ⟨v,hrun1,hyield,hres⟩ : ∃ v,(execOp a.eval ops[f]).run P wb = .ok (.value v) wb ∧ (∀ w',Frame (liveAt st.m β0) wb w' → (execOp a.eval ops[f]).run P w' = .ok (.value v) w') ∧ ∃ β',Mem wb Zo st.m β' ∧ (cx wb Zo st.m β).le (cx wb Zo st.m β') ∧ RVs (cx wb Zo st.m β') (putT t (ops[f]).dst rv) (a.put (ops[f]).dst v).tmps.toList:=by
    cases hr : (execOp a.eval ops[f]).run P wb with
    | ok x w1 =>
     obtain ⟨v,rfl,rfl,h3⟩:=lookP_run hlook (hsame wb (Frame.refl _ _)) hr
     rw [hr] at hwp
     obtain ⟨v',β',e,hG,M',hle',hrv,_⟩:=hwp
     refine ⟨v,rfl,fun w' hS=>?_,β',M',hle',?_⟩
     ·obtain ⟨v2,e2,_,h4⟩:=lookP_run hlook (hsame w' hS) hr
      injection e2 with e2
      subst e2
      exact h4
     ·rw [e]
      exact (ht.mono hle').put hrv _
    | halt e w1 =>
     rw [hr] at hwp
     exfalso
     cases e <;> exact hwp
   obtain ⟨β',M',hle',hvs⟩:=hres
   refine wpAnyH_first (v:=v) ho (fun j o cs b hj=>noSel_out hns hj cs b) (fun c a w h=>(hP c _ _ h).elim) fuel (lay0 ops.size F) a wb (fun j oj hj hne hun hno=>?_) ?_ (.inl ⟨hwant,hyield⟩) (Frame.refl _ _) ?_
   ·have:=Zn.1 hb6 j (List.mem_range.2 (Array.getElem?_eq_some_iff.1 hj).1)
    rw [hj] at this
    simp only [Yt] at this
    rcases this with (h | h) | h | h
    ·exact absurd (YZ h) hne
    ·exfalso
     have hm : j ∈ done:=by simpa using h
     have hF2:=hd j hm
     rw [ZU,lay0_get (by have:=hdk j hm; omega),hF2] at hun
     cases hun
    ·obtain ⟨e,he,h2⟩:=Yu.1 h
     simp only [Zm] at h2
     exact absurd (YZ h2.2) (hno e (YY.1 he) h2.1)
    ·exact h
   ·refine mem_ready.2 ⟨?_,_,ho,fun e he hbe=>?_⟩
    ·rw [ZU,lay0_get (by omega),hfF]; rfl
    ·have hm : e.on ∈ done:=hw _ ((waits_spec ho).2 ⟨e,he,hbe,rfl⟩)
     rw [ZU,lay0_get (by have:=hdk _ hm; omega),hd _ hm]; rfl
   ·rw [lay0_set (by omega)]
    have hpart : Part ops k st rs wb (liveAt st.m β0) Zo gh (F.set f true) (a.put (ops[f]).dst v) wb:=by
     rcases head_step (Q:=fun _ _ _=>False) (K':=fun a' w'=>Part ops k st rs wb (liveAt st.m β0) Zo gh (F.set f true) a' w') A hrun hF hc r hfk hsz hfF (fun j hj=>hd j (hw j hj)) (fun _ _ h=>h) with ⟨_,h⟩ | ⟨h,_⟩
     ·unfold Oper.wp at h
      rw [hrun1] at h
      exact h
     ·rw [hwant] at h; cases h
    have hset : ∀ g,F[g]? = some true → (F.set f true)[g]? = some true:=fun g h=>by
     by_cases e : g = f
     ·subst e; rw [Yd (by omega)]
     ·rw [ZV (fun q=>e q.symm)]; exact h
    refine flt_soundK A hQ hns hP hrun htail todo (f :: done) fuel (F.set f true) _ _ β' hb2 hv3 M' (hle.trans hle') hvs (fun g hg=>?_) (fun g hg=>?_) (fun g hg=>hk g (ZN _ hg)) (by simpa using hF) (by omega) ?_ (fun g hg=>?_) (fun g hg=>?_) hpart
    ·rcases Zy.1 hg with rfl | hg
     ·rw [Yd (by omega)]
     ·exact hset g (hd g hg)
    ·rcases Zy.1 hg with rfl | hg
     ·exact hfk
     ·exact hdk g hg
    ·intro j hj l hl
     by_cases e : j = f
     ·subst e
      exact hset l (hd l (hw l hl))
     ·rw [ZV (fun q=>e q.symm)] at hj
      exact hset l (hc j hj l hl)
    ·have hne : g ≠ f:=fun e=>hfn (e ▸ hg)
     rw [ZV (fun q=>hne q.symm)]
     exact hf g (ZN _ hg)
    ·rcases hfl g hg with h | h
     ·rcases Zy.1 h with rfl | h
      ·exact .inr (by rw [Yd (by omega)])
      ·exact .inl h
     ·exact .inr (hset g h)
def WA (P : Program) (ops : Array Oper) (st : St) (Q : Exit → St → Prop) : Prop:=∀ (w0 : World) (E Zo : Nat → Prop) (gh : List Value) (a : Act) (w : World),Rel w0 E Zo gh st a w →
 wpAny P .any ops (fun e a' w'=>∃ st',Q e st' ∧ Rel w0 E Zo gh st' a' w') ops.size (Array.replicate ops.size false) a { w with drawn:=w.drawn + 1 }
theorem WA.sound {st : St} {Q : Exit → St → Prop} {id : Nat} (hm : P.follows .mixedOrders = true) (h : WA P ops st Q) : SW P (.region id ops true) st Q :=
 fun w0 E Zo gh a w r=>wp_region_any hm (h w0 E Zo gh a w r)
theorem WA.drawnK0 {st : St} {Q : Exit → St → Prop} (fl : List Nat) (k : Nat) (hk : anyF ops fl k = true) (hf : fltS ops [] fl = true) (hfv : FL P ops fl st.t) (hns : noSel ops = true) (hP : ∀ c st,¬ Q (.panic c) st)
  (h : RQ P (dsts ops) k ops.toList st (Q .normal)) : WA P ops st Q:=by
 intro w0 E Zo gh a w r
 have A:=Any.of hk
 obtain ⟨rs,st',hrun,htail⟩:=RQ_run h
 have hlenk : (ops.toList.take k).length = k:=by simp [A.le]
 have hrl : rs.length = k:=by rw [hrun.len,hlenk]
 have h0 : Array.replicate ops.size false = lay0 ops.size (Zs k false):=by
  have:=A.le
  unfold lay0
  rw [Wa,Wb,show k + (ops.size - k) = ops.size by omega]
  simp
 rw [h0]
 obtain ⟨β,M,g1,g2,g3,g4,g5⟩:=r
 have hG : Grow w { w with drawn:=w.drawn + 1 }:=Grow.drew w
 have hup : ∀ (st2 : St) (a : Act) (w2 : World),Rel { w with drawn:=w.drawn + 1 } (liveAt st.m β) Zo gh st2 a w2 → Rel w0 E Zo gh st2 a w2:=by
  rintro st2 a w2 ⟨β2,M2,q1,q2,q3,q4,q5⟩
  refine ⟨β2,M2,fun b hb=>?_,?_,q3,q4,q5⟩
  ·rcases q1 b hb with h | h
   ·exact g1 b h
   ·exact .inr (ZW g2.size h)
  ·have g3 : Frame E w0 { w with drawn:=w.drawn + 1 }:=g2.trans (hG.mono (fun _ q=>q.elim))
   exact ⟨q2.os.trans g3.os,q2.tape.trans g3.tape,q2.output.trans g3.output,ZW g3.size q2.size,fun i hi hE=>(q2.block i (Nat.lt_of_lt_of_le hi g3.size) (fun hl=>(g1 i hl).elim hE (fun h=>by omega))).trans (g3.block i hi hE),ZW g3.drawn q2.drawn⟩
 refine wpAny_of_held _ _ _ _ (flt_soundK (K:=Q .normal) (st:=st) (β0:=β) (wb:={ w with drawn:=w.drawn + 1 }) (Zo:=Zo) (gh:=gh) A (fun st2 a w hq hr=>⟨st2,hq,hup _ _ _ hr⟩) hns (fun c a w ⟨st,h,_⟩=>hP c st h) hrun htail fl [] ops.size _ a st.t β hf hfv (M.grow hG) (Cx.le.refl _) (g4.mono (cx_le_grow hG)) (fun g hg=>by cases hg) (fun g hg=>by cases hg) A.flt (by simp) ?_ (fun i hi=>?_) (fun f hf=>?_) (fun f hf=>.inl hf) ?_)
 ·have h1 : ∀ n,left (Zs n false) = n:=by
   intro n
   induction n with
   | zero=>rfl
   | succ n ih=>simp [Yk,left,ih]; omega
  have:=A.le
  rw [h1]; omega
 ·rw [YG] at hi
  split at hi <;> cases hi
 ·rw [YG,if_pos (A.flt f hf)]
 ·unfold Part
  rw [runT_none]
  have hf : ∀ (l : List Res),∃ n,flatM l (Zs l.length false) = Zs n .hole:=by
   intro l
   induction l with
   | nil=>exact ⟨0,rfl⟩
   | cons x xs ih =>
    obtain ⟨n,hn⟩:=ih
    refine ⟨(newOf x).length + n,?_⟩
    simp [Yk,flatM,hn,← Wb]
  obtain ⟨n,hn⟩:=hf rs
  rw [hrl] at hn
  rw [hn]
  obtain ⟨M1,hle⟩:=(M.grow hG).holes n
  refine ⟨_,M1,?_,Frame.refl _ _,g3,g4.mono ((cx_le_grow hG).trans hle),g5.mono ((cx_le_grow hG).trans hle)⟩
  rintro b ⟨p,q,l,h1,h2,h3⟩
  rcases getElem?_append_holes h1 with h1 | ⟨_,rfl⟩
  ·rw [List.getElem?_append_left (by rw [M.len]; exact (Zp.1 h1).1)] at h2
   exact .inl ⟨p,q,l,h1,h2,h3⟩
  ·simp [Ob.blk] at h3
theorem SW.drawnK {st : St} {Q : Exit → St → Prop} {id : Nat} (fl : List Nat) (k : Nat) (hm : P.follows .mixedOrders = true) (hk : anyF ops fl k = true) (hf : fltS ops [] fl = true) (hns : noSel ops = true) (hfv : FL P ops fl st.t)
  (h : RQ P (dsts ops) k ops.toList st (Q .normal)) : SW P (.region id ops true) st Q:=by
 refine SW.mono (Q:=fun e st=>match e with | .normal=>Q .normal st | _=>False) (WA.sound hm (WA.drawnK0 fl k hk hf hfv hns (fun c st h=>h) h)) fun e st h=>?_
 cases e <;> first | exact h | exact h.elim
def renO (inv : List Nat) (o : Oper) : Oper:=⟨o.dst,o.op,o.type,o.pos,o.after.map (fun e=>⟨inv.getD e.on inv.length,e.ground⟩),o.guard⟩
def permO (ord inv : List Nat) (ops : Array Oper) : Array Oper:=((pickO ops.toList ord).map (renO inv)).toArray
def permB (ord inv : List Nat) (ops : Array Oper) : Bool:=Yc ord.length ops.size && Yc inv.length ops.size && ((List.range ops.size).all fun i=>Nat.blt (ord.getD i ops.size) ops.size && Nat.blt (inv.getD i ops.size) ops.size && Yc (ord.getD (inv.getD i ops.size) ops.size) i && Yc (inv.getD (ord.getD i ops.size) ops.size) i) && ops.toList.all fun o=>o.guard.isNone
structure PermO (ord inv : List Nat) (ops ops' : Array Oper) : Prop where
 io : ∀ i,i < ops.size → inv.getD i ops.size < ops.size ∧ ord.getD (inv.getD i ops.size) ops.size = i
 oi : ∀ i,i < ops.size → ord.getD i ops.size < ops.size ∧ inv.getD (ord.getD i ops.size) ops.size = i
 li : inv.length = ops.size
 op : ∀ i o,ops[i]? = some o → o.guard = none ∧ ops'[inv.getD i ops.size]? = some (renO inv o)
 sz : ops'.size = ops.size
end
end Go.Pm
end
section
namespace Go.Pm
open Go.RowKit
theorem SW.cvo {P : Program} {c : Code} {st : St} {Q : Exit → St → Prop} (o : Nat) {lv : Bool} {sz : Nat} {xs xs' : List (List V)} (hm : st.m[o]? = some (.arr lv sz xs)) (hx : (xs.map fun x=>x.map (conv st.m)) = xs')
  (h : Go.Pm.SW P c ⟨st.t,st.m.set o (.arr lv sz xs'),st.g⟩ Q) : Go.Pm.SW P c st Q:=by
 intro w0 E Zo gh a w ⟨β,M,h1,h2,h3,h4,h5⟩
 obtain ⟨l,hl,hok⟩:=M.at_ hm
 have hlen : xs'.length = xs.length:=by rw [← hx,Zl]
 obtain ⟨M',hle⟩:=M.turn (w':=w) (ob':=.arr lv sz xs') hm hl (.inr ⟨lv,xs',rfl,rfl,by rw [hlen]; exact Zj _⟩) (fun b hb=>by cases lv <;> exact hb) rfl (fun b _ _=>rfl) (fun hle hfz=>by
  obtain ⟨k1,k2,k3,k4⟩:=hok
  refine ⟨by rw [hlen]; exact k1,k2,k3,k4.imp id ?_⟩
  rintro ⟨us,e,fr,q1,q2,q3,q4,q5⟩
  refine ⟨us,e,fr,q1,q2,q3,?_,q5.imp id (fun hf=>(hle.fz _ hf).1)⟩
  have hrr : RR (cx w Zo (st.m.set o (.arr lv sz xs')) β) sz l.b 0 (xs.map fun x=>x.map (conv st.m)):=RR_map (c:=cx w Zo st.m β) (c':=cx w Zo (st.m.set o (.arr lv sz xs')) β) (f:=conv st.m) rfl (fun x _ y _ v hv=>(conv_sound M y v hv).mono hle) q4
  rw [hx] at hrr
  exact hrr)
 exact h w0 E Zo gh a w ⟨β,M',fun b ⟨o1,ob1,l1,g1,g2,g3⟩=>(by
  rcases getElem?_set_some g1 with ⟨rfl,rfl,_⟩ | ⟨hne,g1⟩
  ·exact h1 b ⟨_,_,l1,hm,g2,by cases lv <;> exact g3⟩
  ·exact h1 b ⟨o1,ob1,l1,g1,g2,g3⟩),h2,h3,h4.mono hle,h5.mono hle⟩
end Go.Pm
end
end
section
namespace Go.Proofs.YtiafnciiieofmaaGreat
open Go.Pm
open Go.Gm (Ev Gr)
def DD (g : Gr) : List (Int × Int):=depM g.events (Gm.depthsE g.events) g.events.length
theorem lookD_dep {evs : List Ev} (hs : Gm.Srt evs) {dl : List Int} (hl : dl.length = evs.length) : ∀ (i k : Nat) {e : Ev} {d : Int},k < i → evs[k]? = some e → dl[k]? = some d → lookD (depM evs dl i) e.id 0 = d
 | 0,k,e,d,h,_,_=>by omega
 | i + 1,k,e,d,h,he,hd=>by
   by_cases hi : i < evs.length
   ·obtain ⟨e',he'⟩ : ∃ e',evs[i]? = some e':=⟨_,Zd hi⟩
    obtain ⟨d',hd'⟩ : ∃ d',dl[i]? = some d':=⟨_,Zd (by omega)⟩
    have hz : (evs.zip dl)[i]? = some (e',d'):=by rw [List.getElem?_zip_eq_some]; exact ⟨he',hd'⟩
    have hnx : depM evs dl (i + 1) = putK (depM evs dl i) e'.id d':=by
     unfold depM
     rw [Zf,hz,Zh,Ye]; rfl
    rw [hnx,lookD_put]
    by_cases hki : k = i
    ·subst hki
     rw [he] at he'; injection he' with he'
     rw [hd] at hd'; injection hd' with hd'
     rw [he',if_pos rfl,hd']
    ·have hlt : e.id < e'.id:=Gm.pw_get hs (by omega : k < i) he he'
     rw [if_neg (by omega)]
     exact lookD_dep hs hl i k (by omega) he hd
   ·have hz : (evs.zip dl)[i]? = none:=by rw [List.getElem?_eq_none]; rw [List.length_zip]; omega
    have hkl:=(Zp.1 he).1
    have hnx : depM evs dl (i + 1) = depM evs dl i:=by
     unfold depM
     rw [Zf,hz,Option.toList_none,Zz]
    rw [hnx]
    exact lookD_dep hs hl i k (by omega) he hd
theorem evOf_at {g : Gr} {a : Int} (h : Gm.hasId g.events a = true) : ∃ e,g.events[Gm.fidE g.events a]? = some e ∧ evOf g a = e ∧ e.id = a:=by
 obtain ⟨e,h1,h2⟩:=Gm.fid_get h
 refine ⟨e,h1,?_,h2⟩
 unfold evOf
 rw [← fid_at h,h1]; rfl
theorem DD_at {g : Gr} (h : GG g) {a : Int} (ha : Gm.hasId g.events a = true) : ∃ d,(Gm.depthsE g.events)[Gm.fidE g.events a]? = some d ∧ lookD (DD g) (evOf g a).id 0 = d:=by
 obtain ⟨e,h1,h2,h3⟩:=evOf_at ha
 have hl:=Gm.fid_lt ha
 have hdl:=(Gm.depths_ok g.events).len
 refine ⟨_,Zd (by omega),?_⟩
 rw [h2]
 exact lookD_dep h.srt hdl _ _ hl h1 (Zd (by omega))
theorem lessB_eq {D : List (Int × Int)} {x y : Ev} : decide (cmpD D x y < 0) = if firstE x != firstE y then firstE x else if lookD D x.id 0 != lookD D y.id 0 then decide (lookD D x.id 0 < lookD D y.id 0) else if x.time != y.time then decide (x.time < y.time) else decide (x.id < y.id):=by
 rw [ZE,decide_eq_true_eq,cmpD_iff]
 unfold fk
 have hsame : ∀ b : Bool,((if b then (0 : Int) else 1) < (if b then 0 else 1)) = False:=fun b=>by cases b <;> simp
 have hb : ∀ b : Bool,(b != b) = false:=fun b=>by cases b <;> rfl
 have key : (lookD D x.id 0 < lookD D y.id 0 ∨ lookD D x.id 0 = lookD D y.id 0 ∧ (x.time < y.time ∨ x.time = y.time ∧ x.id < y.id)) ↔ (if (lookD D x.id 0 != lookD D y.id 0) = true then decide (lookD D x.id 0 < lookD D y.id 0) else if (x.time != y.time) = true then decide (x.time < y.time) else decide (x.id < y.id)) = true:=by
  by_cases h1 : lookD D x.id 0 = lookD D y.id 0
  ·rw [if_neg (by simp [h1])]
   by_cases h2 : x.time = y.time
   ·rw [if_neg (by simp [h2]),decide_eq_true_eq]; omega
   ·rw [if_pos (by simp [h2]),decide_eq_true_eq]; omega
  ·rw [if_pos (by simp [h1]),decide_eq_true_eq]; omega
 cases hx : firstE x <;> cases hy : firstE y
 ·rw [if_neg (c:=(false != false) = true) (by decide),← key]; simp
 ·simp
 ·simp
 ·rw [if_neg (c:=(true != true) = true) (by decide),← key]; simp
section
variable {P : Program} [Is P]
theorem c_l06Heavy (e : Ev) : Con P 219 [.agg (encEv e)] (.bool (firstE e)):=by
 refine Con.of (n:=28) (rs:=[.tmp 2]) (Is.fn Tryz.func219) rfl (Is.call Tryz.call219) Tryz.results219 Tryz.ntmps219 trivial ?_
 simp only [method_specs_simp,seval]
 simp only [method_specs_simp,seval,encEv]
 unfold firstE
 cases e.kind == 1 <;> cases e.kind == 3 <;> cases e.kind == 5 <;> cases e.kind == 2 <;> simp [method_specs_simp]
theorem c_l06Less (g : Gr) (h : GG g) (a b : Int) (ha : Gm.hasId g.events a = true) (hb : Gm.hasId g.events b = true) : Con P 194 [.agg (encGr g),.sl 1 ((Gm.depthsE g.events).map encI),.int .i64 a,.int .i64 b] (.bool (decide (cmpD (DD g) (evOf g a) (evOf g b) < 0))):=by
 have h60:=h.n
 obtain ⟨x,hx1,hx2,hx3⟩:=evOf_at ha
 obtain ⟨y,hy1,hy2,hy3⟩:=evOf_at hb
 obtain ⟨da,hda1,hda2⟩:=DD_at h ha
 obtain ⟨db,hdb1,hdb2⟩:=DD_at h hb
 have hal:=Gm.fid_lt ha
 have hbl:=Gm.fid_lt hb
 have hdl:=(Gm.depths_ok g.events).len
 have hai : atI g.events a = ((Gm.fidE g.events a : Nat) : Int):=atI_yes ha
 have hbi : atI g.events b = ((Gm.fidE g.events b : Nat) : Int):=atI_yes hb
 obtain ⟨i,hi⟩ : ∃ i,i = Gm.fidE g.events a:=⟨_,rfl⟩
 obtain ⟨j,hj⟩ : ∃ j,j = Gm.fidE g.events b:=⟨_,rfl⟩
 obtain ⟨dl,hdd⟩ : ∃ dl,dl = Gm.depthsE g.events:=⟨_,rfl⟩
 rw [← hi] at hx1 hda1 hal hai
 rw [← hj] at hy1 hdb1 hbl hbi
 rw [← hdd] at hda1 hdb1 hdl ⊢
 rw [hx2] at hda2
 rw [hy2] at hdb2
 rw [hx2,hy2]
 refine Con.ofS (n:=74) (rs:=[.tmp 8]) (Is.fn Tryz.func194) rfl (Is.call Tryz.call194) Tryz.results194 Tryz.ntmps194 trivial ?_
 refine SW.seq (CW.sound ?_)
 simp only [method_specs_simp,seval,encGr,encEv]
 refine SW.seq (CW.sound ?_)
 simp only [method_specs_simp,seval,encGr,encEv]
 refine ⟨by kernel_rfl,?_⟩
 refine clY.con (c_l03At g.events a (by omega)) (by simp only [method_specs_simp,encGr,encEv]) ?_
 simp only [method_specs_simp,seval,encGr,encEv,hai]
 refine clY.con (c_l03At g.events b (by omega)) (by simp only [method_specs_simp,encGr,encEv]) ?_
 simp only [method_specs_simp,seval,encGr,encEv,hbi]
 refine SW.freeze [0] ?_
 simp only [mvcgen_simp,method_specs_simp,seval,encGr,encEv,convs_r8j,conv_junkj]
 refine SW.seq (SW.drawnK [5,6,7,8,9] 12 mixed (by kernel_rfl) (by kernel_rfl) (by kernel_rfl) ?_ ?_)
 ·simp only [method_specs_simp,seval,encGr,encEv,Yl,YI,hy1]
  exact ⟨by omega,by omega,by omega⟩
 show RQi P _ _ _ _ _
 simp only [method_specs_simp,seval,encGr,encEv,hx1,hy1]
 refine ⟨by omega,by omega,by omega,by omega,?_⟩
 rw [lessB_eq,hda2,hdb2]
 refine CW.sound ?_
 simp only [method_specs_simp,seval,encGr,encEv,Zv,Zw]
 refine ⟨by kernel_rfl,?_⟩
 refine clY.con (c_l06Heavy x) (by simp only [method_specs_simp,encGr,encEv,Zv,Zw]) ?_
 simp only [method_specs_simp,seval,encGr,encEv,Zv,Zw]
 refine clY.con (c_l06Heavy y) (by simp only [method_specs_simp,encGr,encEv,Zv,Zw]) ?_
 simp only [method_specs_simp,seval,encGr,encEv,Zv,Zw]
 cases hfx : firstE x <;> cases hfy : firstE y
 case false.true =>
  simp only [method_specs_simp,seval,encGr,encEv,Zv,Zw]
  refine clY.con (c_l06Heavy x) (by simp only [method_specs_simp,encGr,encEv,Zv,Zw]) ?_
  simp only [method_specs_simp,seval,encGr,encEv,Zv,Zw,hfx]
 case true.false =>
  simp only [method_specs_simp,seval,encGr,encEv,Zv,Zw]
  refine clY.con (c_l06Heavy x) (by simp only [method_specs_simp,encGr,encEv,Zv,Zw]) ?_
  simp only [method_specs_simp,seval,encGr,encEv,Zv,Zw,hfx]
 all_goals
  simp only [method_specs_simp,seval,encGr,encEv,Zv,Zw,hda1,hdb1,encI]
  refine ⟨by kernel_rfl,by omega,by omega,by omega,by omega,?_⟩
  cases k1 : (da != db)
  ·simp only [method_specs_simp,seval,encGr,encEv,Zv,Zw,k1]
   cases k2 : (x.time != y.time)
   ·simp only [method_specs_simp,seval,encGr,encEv,Zv,Zw,k2]
   ·simp only [method_specs_simp,seval,encGr,encEv,Zv,Zw,k2]
  ·simp only [method_specs_simp,seval,encGr,encEv,Zv,Zw,k1,hda1,hdb1,encI]
   exact ⟨by kernel_rfl,by omega,by omega,by omega,by omega⟩
end
theorem GG.ids {g : Gr} (h : GG g) : ∀ e ∈ g.events,0 < e.id:=fun e he=>by
 have:=h.ev e he
 simp only [Gm.evRight,Zm,Gm.isB_iff] at this
 omega
theorem SG.idpos {g : Gr} {s : List Ent} (h : GG g) (hs : SG g s) : ∀ x ∈ s,0 < x.id:=fun x hx=>by
 obtain ⟨e,he,h1⟩:=(entOf_iff h).1 (hs.has x hx)
 have:=h.ids e he
 have h2 : (entE e).id = x.id:=by rw [h1]
 have h3 : e.id = x.id:=h2
 omega
theorem ent_same {g : Gr} (h : GG g) {x y : Ent} (hx : entOf g x = true) (hy : entOf g y = true) (hid : x.id = y.id) : x = y:=by
 obtain ⟨e1,he1,h1⟩:=(entOf_iff h).1 hx
 obtain ⟨e2,he2,h2⟩:=(entOf_iff h).1 hy
 have a1 : (entE e1).id = x.id:=by rw [h1]
 have a2 : (entE e2).id = y.id:=by rw [h2]
 have a3 : e1.id = e2.id:=a1.trans (hid.trans a2.symm)
 have:=at_mem h.srt he1
 rw [a3,at_mem h.srt he2] at this
 injection this with this
 rw [← h1,← h2,this]
theorem srt_key {s : List Ent} (hs : s.Pairwise ltE) {x y : Ent} (hx : x ∈ s) (hy : y ∈ s) (h1 : x.kind = y.kind) (h2 : x.key = y.key) : x = y:=by
 obtain ⟨i,hi⟩:=Zx hx
 obtain ⟨j,hj⟩:=Zx hy
 rcases Wc i j with h | h | h
 ·have:=Gm.pw_get hs h hi hj
  unfold ltE at this; omega
 ·subst h; rw [hi] at hj; injection hj
 ·have:=Gm.pw_get hs h hj hi
  unfold ltE at this; omega
theorem SG.LS {g : Gr} {s : List Ent} (h : GG g) (hs : SG g s) : LS g s:=by
 refine ⟨⟨h.hx,h.srt,by have:=SG.len h hs; omega,hs.srt⟩,fun k q=>?_⟩
 unfold idS curE idS
 cases hf : s.find? (isK k q) with
 | none =>
  refine Or.inl ⟨rfl,?_⟩
  show atE g.events 0 = none
  refine Yv.2 fun e he=>?_
  have:=h.ids e he
  simp only [beq_iff_eq]
  omega
 | some x =>
  have h1:=Yw hf
  obtain ⟨e,he,h2⟩:=(entOf_iff h).1 (hs.has x h1)
  have h3 : (entE e).id = x.id:=by rw [h2]
  refine Or.inr ⟨hs.idpos h x h1,?_⟩
  show Gm.hasId g.events x.id = true
  rw [← h3]
  exact has_mem he
def alkS (l : List (List Ent)) (x : Ent) : Bool:=l.all fun s=>idS s x.kind x.key == x.id
theorem idS_in {s : List Ent} (hs : s.Pairwise ltE) {x : Ent} (hx : x.id ≠ 0) : (idS s x.kind x.key == x.id) = s.any (entEq x):=by
 rw [ZE,beq_iff_eq,Yu]
 unfold idS
 cases hf : s.find? (isK x.kind x.key) with
 | none =>
  constructor
  ·intro h; exact absurd h.symm hx
  ·rintro ⟨y,hy,h⟩
   have e:=entEq_iff.1 h
   subst e
   have:=Yv.1 hf x hy
   simp [isK] at this
 | some y =>
  have h1:=Yw hf
  have h2:=List.find?_some hf
  unfold isK at h2
  simp only [Zm,beq_iff_eq] at h2
  constructor
  ·intro h
   refine ⟨y,h1,entEq_iff.2 ?_⟩
   obtain ⟨a,b,c⟩:=x
   obtain ⟨a',b',c'⟩:=y
   simp only at h h2
   rw [h,h2.1,h2.2]
  ·rintro ⟨z,hz,h⟩
   have e:=entEq_iff.1 h
   subst e
   have:=srt_key hs h1 hz h2.1 h2.2
   rw [this]
theorem alk_miss {l : List (List Ent)} (hs : ∀ s ∈ l,s.Pairwise ltE) {x : Ent} (hx : x.id ≠ 0) : alkS l x = !missS l x:=by
 unfold alkS missS
 rw [ZE,Zn,ZR,Ym]
 constructor
 ·intro h s hm
  have:=h s hm
  rw [idS_in (hs s hm) hx] at this
  simp [this]
 ·intro h s hm
  rw [idS_in (hs s hm) hx]
  have:=h s hm
  simpa using this
theorem miss_iff {l : List (List Ent)} {x : Ent} : missS l x = false ↔ ∀ s ∈ l,x ∈ s:=by
 unfold missS
 rw [Ym]
 constructor
 ·intro h s hs
  have:=h s hs
  simp only [ZR,Wd,Yu] at this
  obtain ⟨y,hy,e⟩:=this
  rw [entEq_iff.1 e]; exact hy
 ·intro h s hs
  simp only [ZR,Wd,Yu]
  exact ⟨x,h s hs,entEq_iff.2 rfl⟩
def putR (o : List Ent) (x : Ent) : List Ent:=putL (without o x) x
theorem putR_I {o : List Ent} (hs : o.Pairwise ltE) {x : Ent} (hx : x.id ≠ 0) : putR o x = putI o x:=by
 rw [(put_same o x hs).1,putS,if_neg hx]; rfl
theorem putR_mem {o : List Ent} {x y : Ent} : y ∈ putR o x ↔ y = x ∨ (y ∈ o ∧ otherK x y = true):=by
 unfold putR putL
 have h1 : ∀ L : List Ent,∀ k,y ∈ L.take k ++ x :: L.drop k ↔ y = x ∨ y ∈ L:=fun L k=>by
  conv=>rhs; rw [← YJ k L]
  simp only [ZA,Zy]
  constructor
  ·rintro (h | h | h)
   ·exact .inr (.inl h)
   ·exact .inl h
   ·exact .inr (.inr h)
  ·rintro (h | h | h)
   ·exact .inr (.inl h)
   ·exact .inl h
   ·exact .inr (.inr h)
 rw [h1]
 unfold without
 rw [ZK]
theorem putR_len (o : List Ent) (x : Ent) : (putR o x).length ≤ o.length + 1:=by
 have h1 : (without o x).length ≤ o.length:=Yn _ _
 have h2:=lessN_le (without o x) x
 unfold putR putL
 simp only [ZB,ZF,Zq,List.length_drop]
 omega
def stepA (l : List (List Ent)) (o : List Ent) (x : Ent) : List Ent:=if alkS l x then putR o x else o
def stepB (l : List (List Ent)) (s : List Int) (x : Ent) : List Int:=if alkS l x then s else setI s x.id
def outA (l : List (List Ent)) (p : List Ent) : List Ent:=p.foldl (stepA l) []
def idsA (l : List (List Ent)) (p : List Ent) : List Int:=p.foldl (stepB l) []
theorem outA_len (l : List (List Ent)) : ∀ (p o : List Ent),(p.foldl (stepA l) o).length ≤ o.length + p.length
 | [],o=>Zj _
 | x :: p,o=>by
   have h1 : (stepA l o x).length ≤ o.length + 1:=by
    unfold stepA
    split
    ·exact putR_len o x
    ·omega
   have h2:=outA_len l p (stepA l o x)
   simp only [YK,ZF]
   omega
theorem idsA_len (l : List (List Ent)) : ∀ (p : List Ent) (o : List Int),(p.foldl (stepB l) o).length ≤ o.length + p.length
 | [],o=>Zj _
 | x :: p,o=>by
   have h1 : (stepB l o x).length ≤ o.length + 1:=by
    unfold stepB
    split
    ·omega
    ·exact setI_len o x.id
   have h2:=idsA_len l p (stepB l o x)
   simp only [YK,ZF]
   omega
theorem ltE_str : Gm.Str ltE:=⟨fun x h=>by unfold ltE at h; omega,fun x y z h1 h2=>ltE_trans h1 h2⟩
theorem ltE_nodup {l : List Ent} (h : l.Pairwise ltE) : l.Nodup:=List.Pairwise.imp (fun h=>ltE_ne h) h
theorem srt_same {l1 l2 : List Ent} (h1 : l1.Pairwise ltE) (h2 : l2.Pairwise ltE) (h : ∀ x,x ∈ l1 ↔ x ∈ l2) : l1 = l2 :=
 Gm.sorted_one ltE_str ((YL (ltE_nodup h1) (ltE_nodup h2)).2 h) h1 h2
section
variable {g : Gr} {l : List (List Ent)} (h : GG g) (hs : ∀ s ∈ l,SG g s)
include h hs
theorem flat_ent {x : Ent} (hx : x ∈ l.flatten) : entOf g x = true ∧ x.id ≠ 0:=by
 obtain ⟨s,hm,hxs⟩:=YM.1 hx
 have:=(hs s hm).idpos h x hxs
 exact ⟨(hs s hm).has x hxs,by omega⟩
theorem alk_iff {x : Ent} (hx : x ∈ l.flatten) : alkS l x = true ↔ ∀ s ∈ l,x ∈ s:=by
 rw [alk_miss (fun s hm=>(hs s hm).srt) (flat_ent h hs hx).2,ZR,miss_iff]
theorem outA_ok : ∀ (p o : List Ent),(∀ x ∈ p,x ∈ l.flatten) → o.Pairwise ltE → (∀ y ∈ o,y ∈ l.flatten ∧ alkS l y = true) →
  (p.foldl (stepA l) o).Pairwise ltE ∧ ∀ y,y ∈ p.foldl (stepA l) o ↔ y ∈ o ∨ (y ∈ p ∧ alkS l y = true)
 | [],o,_,ho,_=>⟨ho,fun y=>by simp⟩
 | x :: p,o,hp,ho,hoa=>by
   have hx:=hp x ZD
   have hstep : (stepA l o x).Pairwise ltE ∧ ∀ y,y ∈ stepA l o x ↔ y ∈ o ∨ (y = x ∧ alkS l y = true):=by
    unfold stepA
    split
    ·rename_i ha
     refine ⟨by rw [putR_I ho (flat_ent h hs hx).2]; exact (put_same o x ho).2,fun y=>?_⟩
     rw [putR_mem]
     constructor
     ·rintro (rfl | ⟨h1,_⟩)
      ·exact .inr ⟨rfl,ha⟩
      ·exact .inl h1
     ·rintro (h1 | ⟨rfl,_⟩)
      ·by_cases hk : otherK x y = true
       ·exact .inr ⟨h1,hk⟩
       ·left
        obtain ⟨g1,g2⟩:=hoa y h1
        obtain ⟨s,hm,hxs⟩:=YM.1 hx
        have hys:=(alk_iff h hs g1).1 g2 s hm
        simp only [otherK,Yt,bne_iff_ne,ne_eq,not_or,Decidable.not_not] at hk
        exact srt_key (hs s hm).srt hys hxs hk.1 hk.2
      ·exact .inl rfl
    ·rename_i ha
     refine ⟨ho,fun y=>⟨.inl,?_⟩⟩
     rintro (h1 | ⟨rfl,h2⟩)
     ·exact h1
     ·exact absurd h2 ha
   obtain ⟨h1,h2⟩:=hstep
   obtain ⟨h3,h4⟩:=outA_ok p (stepA l o x) (fun y hy=>hp y (ZN _ hy)) h1 (fun y hy=>by
    rcases (h2 y).1 hy with h | ⟨rfl,h⟩
    ·exact hoa y h
    ·exact ⟨hx,h⟩)
   refine ⟨h3,fun y=>?_⟩
   show y ∈ p.foldl (stepA l) (stepA l o x) ↔ _
   rw [h4,h2,Zy]
   constructor
   ·rintro ((h | h) | h)
    ·exact .inl h
    ·exact .inr ⟨.inl h.1,h.2⟩
    ·exact .inr ⟨.inr h.1,h.2⟩
   ·rintro (h | ⟨h | h,k⟩)
    ·exact .inl (.inl h)
    ·exact .inl (.inr ⟨h,k⟩)
    ·exact .inr ⟨h,k⟩
theorem com_mem {y : Ent} : y ∈ com l ↔ y ∈ l.flatten ∧ alkS l y = true:=by
 constructor
 ·intro hy
  have hf : y ∈ l.flatten ∧ missS l y = false:=by
   unfold com at hy
   split at hy
   ·cases hy
   ·rename_i s l'
    obtain ⟨h1,h2⟩:=ZK.1 hy
    exact ⟨YM.2 ⟨s,ZD,h1⟩,by simpa using h2⟩
  exact ⟨hf.1,(alk_iff h hs hf.1).2 (miss_iff.1 hf.2)⟩
 ·rintro ⟨h1,h2⟩
  have h3:=(alk_iff h hs h1).1 h2
  unfold com
  split
  ·simp at h1
  ·rename_i s l'
   exact ZK.2 ⟨h3 s ZD,by rw [miss_iff.2 h3]; rfl⟩
theorem outA_com : outA l l.flatten = com l:=by
 obtain ⟨h1,h2⟩:=outA_ok h hs l.flatten [] (fun x hx=>hx) List.Pairwise.nil (fun y hy=>by cases hy)
 have hc : (com l).Pairwise ltE:=by
  unfold com
  split
  ·exact List.Pairwise.nil
  ·rename_i s l'
   exact (hs s ZD).srt.sublist Yf
 refine srt_same h1 hc fun y=>?_
 rw [com_mem h hs]
 show y ∈ l.flatten.foldl (stepA l) [] ↔ _
 rw [h2]
 simp
end
theorem idsA_ok {l : List (List Ent)} : ∀ (p : List Ent) (o : List Int),Rise o → Rise (p.foldl (stepB l) o) ∧ ∀ z,z ∈ p.foldl (stepB l) o ↔ z ∈ o ∨ ∃ x ∈ p,alkS l x = false ∧ x.id = z
 | [],o,ho=>⟨ho,fun z=>by simp⟩
 | x :: p,o,ho=>by
   have hstep : Rise (stepB l o x) ∧ ∀ z,z ∈ stepB l o x ↔ z ∈ o ∨ (alkS l x = false ∧ x.id = z):=by
    unfold stepB
    cases ha : alkS l x with
    | true=>exact ⟨ho,fun z=>by simp⟩
    | false =>
     refine ⟨setI_rise ho,fun z=>?_⟩
     simp only [Yg,if_false,true_and]
     rw [setI_mem ho]
     constructor
     ·rintro (h | h)
      ·exact .inr h.symm
      ·exact .inl h
     ·rintro (h | h)
      ·exact .inr h
      ·exact .inl h.symm
   obtain ⟨h3,h4⟩:=idsA_ok p (stepB l o x) hstep.1
   refine ⟨h3,fun z=>?_⟩
   show z ∈ p.foldl (stepB l) (stepB l o x) ↔ _
   rw [h4,hstep.2]
   constructor
   ·rintro ((h | h) | ⟨y,hy,h⟩)
    ·exact .inl h
    ·exact .inr ⟨x,ZD,h⟩
    ·exact .inr ⟨y,ZN _ hy,h⟩
   ·rintro (h | ⟨y,hy,h⟩)
    ·exact .inl (.inl h)
    ·rcases Zy.1 hy with rfl | hy
     ·exact .inl (.inr h)
     ·exact .inr ⟨y,hy,h⟩
theorem metP_mem {met : List Int} {k z : Int} : z ∈ metP met k ↔ z ∈ met ∨ z = k:=by
 unfold metP
 split
 ·rename_i h
  have h:=Zk.1 h
  exact ⟨.inl,fun q=>q.elim id fun e=>e ▸ h⟩
 ·simp
theorem idsM_mem : ∀ (l : List Ent) (met : List Int) {z : Int},z ∈ l.foldl (fun m x=>metP m x.id) met ↔ z ∈ met ∨ ∃ x ∈ l,x.id = z
 | [],met,z=>by simp
 | x :: l,met,z=>by
   rw [YK,idsM_mem l,metP_mem]
   constructor
   ·rintro ((h | h) | ⟨y,hy,h⟩)
    ·exact .inl h
    ·exact .inr ⟨x,ZD,h.symm⟩
    ·exact .inr ⟨y,ZN _ hy,h⟩
   ·rintro (h | ⟨y,hy,h⟩)
    ·exact .inl (.inl h)
    ·rcases Zy.1 hy with rfl | hy
     ·exact .inl (.inr h.symm)
     ·exact .inr ⟨y,hy,h⟩
theorem othI_mem : ∀ (l : List Ent) (met : List Int) {z : Int},z ∈ othI met l ↔ z ∉ met ∧ ∃ x ∈ l,x.id = z
 | [],met,z=>by simp [othI]
 | x :: l,met,z=>by
   simp only [othI]
   split
   ·rename_i hc
    have hc:=Zk.1 hc
    rw [othI_mem l]
    constructor
    ·rintro ⟨h1,y,hy,h⟩
     exact ⟨h1,y,ZN _ hy,h⟩
    ·rintro ⟨h1,y,hy,h⟩
     rcases Zy.1 hy with rfl | hy
     ·exact absurd (h ▸ hc) h1
     ·exact ⟨h1,y,hy,h⟩
   ·rename_i hc
    have hc : x.id ∉ met:=fun q=>hc (Zk.2 q)
    rw [Zy,othI_mem l]
    constructor
    ·rintro (rfl | ⟨h1,y,hy,h⟩)
     ·exact ⟨hc,x,ZD,rfl⟩
     ·exact ⟨fun q=>h1 (List.mem_append_left _ q),y,ZN _ hy,h⟩
    ·rintro ⟨h1,y,hy,h⟩
     by_cases hz : z = x.id
     ·exact .inl hz
     ·refine .inr ⟨fun q=>?_,?_⟩
      ·rcases ZA.1 q with q | q
       ·exact h1 q
       ·exact hz (by simpa using q)
      ·rcases Zy.1 hy with rfl | hy
       ·exact absurd h.symm hz
       ·exact ⟨y,hy,h⟩
def posB (lt : Int → Int → Bool) (o : List Int) (x : Int) : Nat → Nat
 | 0=>0
 | k + 1=>if lt x (o.getD k 0) then posB lt o x k else k + 1
def insB (lt : Int → Int → Bool) (o : List Int) (x : Int) : List Int:=o.take (posB lt o x o.length) ++ x :: o.drop (posB lt o x o.length)
theorem posB_le (lt : Int → Int → Bool) (o : List Int) (x : Int) : ∀ k,posB lt o x k ≤ k
 | 0=>Zj _
 | k + 1=>by
   unfold posB
   split
   ·have:=posB_le lt o x k; omega
   ·exact Zj _
theorem posB_ok (lt : Int → Int → Bool) (o : List Int) (x : Int) : ∀ k,(∀ j,posB lt o x k ≤ j → j < k → lt x (o.getD j 0) = true) ∧ (posB lt o x k = 0 ∨ lt x (o.getD (posB lt o x k - 1) 0) = false)
 | 0=>⟨fun j h1 h2=>by omega,.inl rfl⟩
 | k + 1=>by
   unfold posB
   cases hl : lt x (o.getD k 0) with
   | true =>
    simp only [if_true]
    obtain ⟨h1,h2⟩:=posB_ok lt o x k
    refine ⟨fun j h3 h4=>?_,h2⟩
    by_cases hj : j = k
    ·rw [hj]; exact hl
    ·exact h1 j h3 (by omega)
   | false =>
    simp only [Yg,if_false]
    exact ⟨fun j h1 h2=>by omega,.inr hl⟩
theorem insB_perm (lt : Int → Int → Bool) (o : List Int) (x : Int) : (insB lt o x).Perm (x :: o):=by
 unfold insB
 refine List.perm_middle.trans (List.Perm.cons x ?_)
 rw [YJ]
theorem insB_len (lt : Int → Int → Bool) (o : List Int) (x : Int) : (insB lt o x).length = o.length + 1:=by
 rw [(insB_perm lt o x).length_eq]; rfl
theorem insB_sorted {lt : Int → Int → Bool} {o : List Int} {x : Int} (hnt : ∀ a b c,lt a b = false → lt b c = false → lt a c = false) (has : ∀ a b,lt a b = true → lt b a = false) (ho : o.Pairwise fun a b=>lt b a = false) :
  (insB lt o x).Pairwise fun a b=>lt b a = false:=by
 obtain ⟨h1,h2⟩:=posB_ok lt o x o.length
 have hle:=posB_le lt o x o.length
 unfold insB
 generalize posB lt o x o.length = k at *
 have hb : ∀ y ∈ o.take k,lt x y = false:=by
  intro y hy
  obtain ⟨j,hj,hjy⟩:=Gm.mem_take_get hy
  rcases h2 with h2 | h2
  ·omega
  ·by_cases hjk : j = k - 1
   ·rw [← hjk,ZG,hjy] at h2
    exact h2
   ·obtain ⟨z,hz⟩ : ∃ z,o[k - 1]? = some z:=⟨_,Zd (by omega)⟩
    rw [ZG,hz] at h2
    have h3:=Gm.pw_get ho (by omega : j < k - 1) hjy hz
    exact hnt x z y h2 h3
 have ha : ∀ y ∈ o.drop k,lt y x = false:=by
  intro y hy
  obtain ⟨j,hj,hjy⟩:=Gm.mem_drop_get hy
  have h3:=h1 j hj (Zp.1 hjy).1
  rw [ZG,hjy] at h3
  exact has x y h3
 refine List.pairwise_append.2 ⟨ho.sublist (List.take_sublist _ _),List.pairwise_cons.2 ⟨ha,ho.sublist (List.drop_sublist _ _)⟩,fun y hy z hz=>?_⟩
 rcases Zy.1 hz with rfl | hz
 ·exact hb y hy
 ·obtain ⟨i,hi,hiy⟩:=Gm.mem_take_get hy
  obtain ⟨j,hj,hjz⟩:=Gm.mem_drop_get hz
  exact Gm.pw_get ho (by omega : i < j) hiy hjz
def ltS (g : Gr) (a b : Int) : Bool:=decide (cmpD (DD g) (evOf g a) (evOf g b) < 0)
def ordS (g : Gr) (ids : List Int) : List Int:=ids.foldl (insB (ltS g)) []
theorem ordS_ok (g : Gr) : ∀ (ids o : List Int),(o.Pairwise fun a b=>ltS g b a = false) → ((ids.foldl (insB (ltS g)) o).Pairwise fun a b=>ltS g b a = false) ∧ (ids.foldl (insB (ltS g)) o).Perm (ids ++ o)
 | [],o,ho=>⟨ho,List.Perm.refl _⟩
 | x :: ids,o,ho=>by
   have h1:=insB_sorted (lt:=ltS g) (o:=o) (x:=x) (fun a b c h1 h2=>by
    simp only [ltS,decide_eq_false_iff_not] at *
    exact cmpD_nt h1 h2) (fun a b h1=>by
    simp only [ltS,decide_eq_false_iff_not,decide_eq_true_eq] at *
    exact fun h2=>cmpD_irr _ _ (cmpD_tr h1 h2)) ho
   obtain ⟨h2,h3⟩:=ordS_ok g ids (insB (ltS g) o x) h1
   refine ⟨h2,h3.trans ?_⟩
   refine ((insB_perm (ltS g) o x).append_left ids).trans ?_
   exact List.perm_middle
theorem ordS_ev {g : Gr} {l : List (List Ent)} (h : GG g) (hs : ∀ s ∈ l,SG g s) (hl : SL g l) : (ordS g (idsA l l.flatten)).map (evOf g) = ordR (DD g) (othE g l):=by
 obtain ⟨h1,h2⟩:=ordS_ok g (idsA l l.flatten) [] List.Pairwise.nil
 obtain ⟨h3,h4⟩:=idsA_ok (l:=l) l.flatten [] List.Pairwise.nil
 have hnd : (idsA l l.flatten).Nodup:=h3.nodup
 have hpm : (idsA l l.flatten).Perm (othI (idsM (com l)) l.flatten):=by
  refine (YL hnd (othI_spec _ _).1).2 fun z=>?_
  rw [othI_mem]
  show z ∈ l.flatten.foldl (stepB l) [] ↔ _
  rw [h4]
  have hcm : z ∈ idsM (com l) ↔ ∃ x ∈ com l,x.id = z:=by
   unfold idsM
   rw [idsM_mem]
   simp
  rw [hcm]
  constructor
  ·rintro (h | ⟨x,hx,ha,hz⟩)
   ·cases h
   ·refine ⟨?_,x,hx,hz⟩
    rintro ⟨c,hc,hcz⟩
    obtain ⟨c1,c2⟩:=(com_mem h hs).1 hc
    have:=ent_same h (flat_ent h hs hx).1 (flat_ent h hs c1).1 (hz.trans hcz.symm)
    rw [this,c2] at ha
    cases ha
  ·rintro ⟨h5,x,hx,hz⟩
   refine .inr ⟨x,hx,?_,hz⟩
   cases ha : alkS l x with
   | false=>rfl
   | true=>exact absurd ⟨x,(com_mem h hs).2 ⟨hx,ha⟩,hz⟩ h5
 refine ordR_uniq (othE_nodup hl) ?_ ?_
 ·unfold othE
  rw [Zz] at h2
  exact (h2.trans hpm).map (evOf g)
 ·rw [We]
  refine List.Pairwise.imp (fun {a b} hab=>?_) h1
  simpa [ltS] using hab
theorem ordS_has {g : Gr} {l : List (List Ent)} (h : GG g) (hs : ∀ s ∈ l,SG g s) : ∀ id ∈ idsA l l.flatten,Gm.hasId g.events id = true:=fun id hid=>by
 obtain ⟨h3,h4⟩:=idsA_ok (l:=l) l.flatten [] List.Pairwise.nil
 rcases (h4 id).1 hid with h5 | ⟨x,hx,_,rfl⟩
 ·cases h5
 ·obtain ⟨e,he,h6⟩:=(entOf_iff h).1 (flat_ent h hs hx).1
  have : e.id = x.id:=by rw [← h6]; rfl
  rw [← this]
  exact has_mem he
section
variable {P : Program} [Is P]
theorem c_l06Alike (l : List (List Ent)) (x : Ent) (hl : l.length ≤ 60) (hs : ∀ s ∈ l,s.length ≤ 400) : Con P 192 [.sl 1 (l.map encSS),.agg (encEnt x)] (.bool (alkS l x)):=by
 refine Con.of (n:=24) (rs:=[.tmp 4]) (Is.fn Tryz.func192) rfl (Is.call Tryz.call192) Tryz.results192 Tryz.ntmps192 trivial ?_
 simp only [method_specs_simp,seval,encEnt,encSS]
 refine SW.while (A:=Nat) (fun i=>⟨pad 24 [.sl 1 (l.map encSS),.junk,.junk,.ptr 0 0,.bool false,.int .i64 i],[.box true (encEnt x)],[]⟩) (fun i=>l.length - i) (fun i=>i ≤ l.length ∧ alkS l x = alkS (l.drop i) x) 0 [0] ⟨Zi _,rfl⟩ ?_ ?_
 ·simp only [mvcgen_simp,method_specs_simp,seval,encEnt,encSS]
 ·rintro i ⟨hi,hr⟩
  have w1 : IntKind.i64.wrap ((i : Int) + 1) = ((i + 1 : Nat) : Int):=wadd1 i (by omega)
  refine CW.sound ?_
  simp only [method_specs_simp,seval,encEnt,encSS]
  refine gB_split (fun h1=>?_) (fun h1=>?_)
  ·simp only [decide_eq_true_eq,Za] at h1
   obtain ⟨s,hsi⟩ : ∃ s,l[i]? = some s:=⟨_,Zd h1⟩
   have hsl:=hs s (Zg hsi)
   simp only [method_specs_simp,seval,encEnt,encSS,hsi]
   refine ⟨by kernel_rfl,by omega,by omega,?_⟩
   refine clY.con (c_l04At s x.kind x.key (by omega)) (by simp only [method_specs_simp,encEnt,encSS]) ?_
   simp only [method_specs_simp,seval,encEnt,encSS]
   have hcs : alkS (l.drop i) x = ((idS s x.kind x.key == x.id) && alkS (l.drop (i + 1)) x):=by rw [drop_cons hsi]; rfl
   cases hb : (idS s x.kind x.key == x.id) with
   | true =>
    have hb2 : (idS s x.kind x.key != x.id) = false:=by unfold bne; rw [hb]; rfl
    rw [hb,ZH] at hcs
    simp only [method_specs_simp,seval,encEnt,encSS,hb2]
    refine Again.mk (i + 1) [0] ⟨h1,hr.trans hcs⟩ (Zc h1 (Zb _)) ?_
    simp only [mvcgen_simp,method_specs_simp,seval,encEnt,encSS,w1]
   | false =>
    have hb2 : (idS s x.kind x.key != x.id) = true:=by unfold bne; rw [hb]; rfl
    rw [hb,ZS] at hcs
    rw [hr,hcs]
    simp only [method_specs_simp,seval,encEnt,encSS,hb2]
  ·have hi2 : i = l.length:=by simp only [decide_eq_false_iff_not,Ze,Za] at h1; omega
   rw [hr,hi2,List.drop_length]
   rfl
end
theorem preL_len {l : List (List Ent)} (hn : l.length ≤ 60) (hl : ∀ s ∈ l,s.length ≤ 400) (i : Nat) {s : List Ent} (hs : s.length ≤ 400) (j : Nat) : (preL l i s j).length ≤ 24400:=by
 have h2:=flat_len (l:=l.take i) fun s hs=>hl s (Yx hs)
 have h4 : (l.take i).length ≤ l.length:=by rw [Zq]; omega
 have h5 : (s.take j).length ≤ s.length:=by rw [Zq]; omega
 unfold preL
 rw [ZB]
 omega
theorem outA_snoc (l : List (List Ent)) (p : List Ent) (x : Ent) : outA l (p ++ [x]) = stepA l (outA l p) x:=by unfold outA; rw [Ye]; rfl
theorem idsA_snoc (l : List (List Ent)) (p : List Ent) (x : Ent) : idsA l (p ++ [x]) = stepB l (idsA l p) x:=by unfold idsA; rw [Ye]; rfl
theorem ordS_next {g : Gr} {ids : List Int} {i : Nat} {x : Int} (h : ids[i]? = some x) : ordS g (ids.take (i + 1)) = insB (ltS g) (ordS g (ids.take i)) x:=by
 unfold ordS
 rw [Zf,h,Zh,Ye]; rfl
theorem ordS_len (g : Gr) : ∀ ids : List Int,(ordS g ids).length = ids.length:=fun ids=>by
 have:=(ordS_ok g ids [] List.Pairwise.nil).2.length_eq
 unfold ordS
 simpa using this
theorem ordS_mem (g : Gr) (ids : List Int) : ∀ x ∈ ordS g ids,x ∈ ids:=fun x hx=>by
 have:=(ordS_ok g ids [] List.Pairwise.nil).2.mem_iff.1 hx
 simpa using this
section
variable {P : Program} [Is P]
theorem c_l06Resolve (g : Gr) (l : List (List Ent)) (h : GG g) (hs : ∀ s ∈ l,SG g s) (hn : l.length ≤ 60) : Con P 156 [.agg (encGr g),.sl 1 ((Gm.depthsE g.events).map encI),.sl 1 (l.map encSS)] (.sl 3 ((resI g (DD g) l).map encEnt)):=by
 have hl4 : ∀ s ∈ l,s.length ≤ 400:=fun s hm=>by have:=SG.len h (hs s hm); omega
 have h60:=h.n
 have hx:=h.hx
 obtain ⟨dl,hdl⟩ : ∃ dl,dl = Gm.depthsE g.events:=⟨_,rfl⟩
 rw [← hdl]
 refine Con.ofS (n:=138) (rs:=[.tmp 6]) (Is.fn Tryz.func156) rfl (Is.call Tryz.call156) Tryz.results156 Tryz.ntmps156 (by simp only [method_specs_simp]) ?_
 refine SW.seq (CW.sound ?_)
 simp only [method_specs_simp,seval,encGr]
 refine SW.seq (CW.sound ?_)
 simp only [method_specs_simp,seval,encGr]
 refine SW.seq (CW.sound ?_)
 simp only [method_specs_simp,seval,encGr]
 refine SW.freeze [1,2] ?_
 simp only [mvcgen_simp,method_specs_simp,seval,encGr,convs_r8j,conv_junkj]
 refine SW.seq (CW.sound ?_)
 simp only [method_specs_simp,seval,encGr]
 refine SW.while (A:=Nat) (fun i=>⟨pad 138 [.junk,.sl 1 (dl.map encI),.sl 1 (l.map encSS),.ptr 0 0,.junk,.junk,.nil,.sl 3 ((outA l (preL l i [] 0)).map encEnt),.sl 1 ((idsA l (preL l i [] 0)).map encI),.int .i64 i],[.box true (encGr g)],[]⟩) (fun i=>l.length - i) (fun i=>i ≤ l.length) 0 [0] (Zi _) ?_ ?_
 ·have h0 : outA l (preL l 0 [] 0) = []:=rfl
  have h1 : idsA l (preL l 0 [] 0) = []:=rfl
  rw [h0,h1]
  simp only [mvcgen_simp,method_specs_simp,seval,encGr]
 ·intro i hi
  have w1 : IntKind.i64.wrap ((i : Int) + 1) = ((i + 1 : Nat) : Int):=wadd1 i (by omega)
  refine CW.sound ?_
  simp only [method_specs_simp,seval,encGr]
  refine gB_split (fun h1=>?_) (fun h1=>?_)
  ·simp only [decide_eq_true_eq,Za] at h1
   obtain ⟨s,hsi⟩ : ∃ s,l[i]? = some s:=⟨_,Zd h1⟩
   have hsm:=Zg hsi
   have hsl:=hl4 s hsm
   refine SW.while (A:=Nat) (fun k=>⟨pad 138 [.junk,.sl 1 (dl.map encI),.sl 1 (l.map encSS),.ptr 0 0,.junk,.junk,.nil,.sl 3 ((outA l (preL l i s k)).map encEnt),.sl 1 ((idsA l (preL l i s k)).map encI),.int .i64 i,.int .i64 k],[.box true (encGr g)],[]⟩) (fun k=>s.length - k) (fun k=>k ≤ s.length) 0 [0] (Zi _) ?_ ?_
   ·rw [preL_zero l i s]
    simp only [mvcgen_simp,method_specs_simp,seval,encGr]
   ·intro k hk
    have hpl:=preL_len hn hl4 i hsl k
    have hol:=outA_len l (preL l i s k) []
    have hil:=idsA_len l (preL l i s k) []
    rw [ZX,YN] at hol hil
    have hol : (outA l (preL l i s k)).length ≤ 24400:=ZW hol hpl
    have hil : (idsA l (preL l i s k)).length ≤ 24400:=ZW hil hpl
    have w2 : IntKind.i64.wrap ((k : Int) + 1) = ((k + 1 : Nat) : Int):=wadd1 k (by omega)
    refine CW.sound ?_
    simp only [method_specs_simp,seval,encGr,hsi,encSS]
    refine ⟨by omega,by omega,?_⟩
    refine gB_split (fun h2=>?_) (fun h2=>?_)
    ·simp only [decide_eq_true_eq,Za] at h2
     obtain ⟨x,hxk⟩ : ∃ x,s[k]? = some x:=⟨_,Zd h2⟩
     have hstep:=preL_step (l:=l) (i:=i) hxk
     have ho2 : outA l (preL l i s (k + 1)) = stepA l (outA l (preL l i s k)) x:=by rw [hstep,outA_snoc]
     have hi2 : idsA l (preL l i s (k + 1)) = stepB l (idsA l (preL l i s k)) x:=by rw [hstep,idsA_snoc]
     obtain ⟨o,ho⟩ : ∃ o,o = outA l (preL l i s k):=⟨_,rfl⟩
     obtain ⟨ids,hids⟩ : ∃ ids,ids = idsA l (preL l i s k):=⟨_,rfl⟩
     rw [← ho] at hol ho2 ⊢
     rw [← hids] at hil hi2 ⊢
     simp only [method_specs_simp,seval,encGr,hxk,encEnt,hsi,encSS]
     refine ⟨by omega,by omega,by omega,by omega,?_⟩
     refine clY.con (c_l06Alike l x hn hl4) (by simp only [method_specs_simp,encEnt]) ?_
     cases ha : alkS l x with
     | true =>
      have e1 : stepA l o x = putR o x:=by unfold stepA; rw [ha]; rfl
      have e2 : stepB l ids x = ids:=by unfold stepB; rw [ha]; rfl
      rw [e1] at ho2
      rw [e2] at hi2
      simp only [method_specs_simp,seval,encGr,hxk,encEnt,hsi,encSS]
      refine ⟨by omega,by omega,by omega,by omega,?_⟩
      refine clY.con (c117 o x (by omega)) (by simp only [method_specs_simp,encEnt]) ?_
      simp only [method_specs_simp,seval,encGr]
      refine Again.mk (k + 1) [0] h2 (Zc h2 (Zb _)) ?_
      rw [ho2,hi2]
      simp only [mvcgen_simp,method_specs_simp,seval,encGr,w2,putR]
     | false =>
      have e1 : stepA l o x = o:=by unfold stepA; rw [ha]; rfl
      have e2 : stepB l ids x = setI ids x.id:=by unfold stepB; rw [ha]; rfl
      rw [e1] at ho2
      rw [e2] at hi2
      simp only [method_specs_simp,seval,encGr,hxk,encEnt,hsi,encSS]
      refine ⟨by omega,by omega,by omega,by omega,?_⟩
      refine clY.con (c_l03Set ids x.id (by omega)) (by simp only [method_specs_simp,encGr]) ?_
      simp only [method_specs_simp,seval,encGr]
      refine Again.mk (k + 1) [0] h2 (Zc h2 (Zb _)) ?_
      rw [ho2,hi2]
      simp only [mvcgen_simp,method_specs_simp,seval,encGr,w2]
    ·have hk2 : k = s.length:=by simp only [decide_eq_false_iff_not,Ze,Za] at h2; omega
     refine Again.mk (i + 1) [0] h1 (Zc h1 (Zb _)) ?_
     rw [hk2,← preL_next hsi]
     simp only [mvcgen_simp,method_specs_simp,seval,encGr,w1]
  ·have hi2 : i = l.length:=by simp only [decide_eq_false_iff_not,Ze,Za] at h1; omega
   rw [hi2,preL_all]
   have hcom:=outA_com h hs
   have hall:=ordS_has h hs
   have hidl : (idsA l l.flatten).length ≤ 24400:=by
    have a1:=idsA_len l l.flatten []
    have a2:=preL_len hn hl4 l.length (s:=[]) (Zi _) 0
    rw [preL_all] at a2
    rw [ZX,YN] at a1
    exact ZW a1 a2
   have hres : resI g (DD g) l = ((ordS g (idsA l l.flatten)).map (evOf g)).foldl (stepR g) (outA l l.flatten):=by
    rw [ordS_ev h hs (SL.of h hn hs),outA_com h hs]; rfl
   have hsc : SG g (outA l l.flatten):=by
    rw [outA_com h hs]
    cases l with
    | nil=>exact SG.nil g
    | cons s l =>
     have h1:=hs s ZD
     exact ⟨h1.srt.sublist Yf,fun x hx=>h1.has x (ZK.1 hx).1⟩
   rw [hres]
   obtain ⟨ids,hids⟩ : ∃ ids,ids = idsA l l.flatten:=⟨_,rfl⟩
   obtain ⟨o,ho⟩ : ∃ o,o = outA l l.flatten:=⟨_,rfl⟩
   rw [← hids] at hall hidl ⊢
   rw [← ho] at hsc ⊢
   refine SW.seq (CW.sound ?_)
   simp only [method_specs_simp,seval,encGr]
   refine SW.freeze [1] ?_
   simp only [mvcgen_simp,method_specs_simp,seval,encGr,convs_r8j,conv_junkj]
   refine SW.seq (CW.sound ?_)
   simp only [method_specs_simp,seval,encGr]
   refine SW.while (A:=Nat) (fun i=>⟨pad 138 [.junk,.sl 1 (dl.map encI),.junk,.ptr 0 0,.junk,.junk,.nil,.sl 3 (o.map encEnt),.sl 1 (ids.map encI),.junk,.junk,.sl 1 ((ordS g (ids.take i)).map encI),.int .i64 i],[.box true (encGr g)],[]⟩) (fun i=>ids.length - i) (fun i=>i ≤ ids.length) 0 [0] (Zi _) ?_ ?_
   ·have h0 : ordS g (ids.take 0) = []:=rfl
    rw [h0]
    simp only [mvcgen_simp,method_specs_simp,seval,encGr]
   ·intro i hi
    have w1 : IntKind.i64.wrap ((i : Int) + 1) = ((i + 1 : Nat) : Int):=wadd1 i (by omega)
    have hol : (ordS g (ids.take i)).length = i:=by rw [ordS_len,Zq]; omega
    refine SW.seq (CW.sound ?_)
    simp only [method_specs_simp,seval,encGr,hol]
    refine gB_split (fun h1=>?_) (fun h1=>?_)
    ·simp only [decide_eq_true_eq,Za] at h1
     obtain ⟨x,hxi⟩ : ∃ x,ids[i]? = some x:=⟨_,Zd h1⟩
     have hox:=hall x (Zg hxi)
     have hnx:=ordS_next (g:=g) hxi
     have hom : ∀ y ∈ ordS g (ids.take i),Gm.hasId g.events y = true:=fun y hy=>hall y (Yx (ordS_mem g _ y hy))
     obtain ⟨r,hr⟩ : ∃ r,r = ordS g (ids.take i):=⟨_,rfl⟩
     rw [← hr] at hol hnx hom ⊢
     refine SW.seq (SW.block ?_)
     refine SW.seq (CW.sound ?_)
     simp only [method_specs_simp,seval,encGr,hol]
     refine SW.seq (CW.sound ?_)
     simp only [method_specs_simp,seval,encGr,hol]
     refine SW.while (A:=Nat) (fun k=>⟨pad 138 [.junk,.sl 1 (dl.map encI),.junk,.ptr 0 0,.junk,.junk,.nil,.sl 3 (o.map encEnt),.sl 1 (ids.map encI),.junk,.junk,.sl 1 (r.map encI),.int .i64 i,.int .i64 k],[.box true (encGr g)],[]⟩) (fun k=>k) (fun k=>k ≤ i ∧ posB (ltS g) r x r.length = posB (ltS g) r x k) i [0] ⟨Zj _,by rw [hol]⟩ ?_ ?_
     ·simp only [mvcgen_simp,method_specs_simp,seval,encGr,hol]
     ·rintro k ⟨hk,hp⟩
      refine CW.sound ?_
      simp only [method_specs_simp,seval,encGr,hol]
      rcases Wf k with rfl | hpos
      ·rw [show posB (ltS g) r x 0 = 0 from rfl] at hp
       simp only [method_specs_simp,seval,encGr,hxi,encI]
       refine ⟨by kernel_rfl,?_⟩
       have hall2 : [V.int .i64 x] :: r.map encI = (insB (ltS g) r x).map encI:=by unfold insB; rw [hp,YO,YP,ZY,ZO]; rfl
       have hins : (insB (ltS g) r x).length = i + 1:=by rw [insB_len]; omega
       refine CW.sound ?_
       simp only [method_specs_simp,seval,encGr,hxi,encI]
       refine ⟨by omega,by omega,by omega,by omega,by omega,by omega,by omega,?_⟩
       rw [hall2]
       refine SW.freeze [5] ?_
       simp only [mvcgen_simp,method_specs_simp,seval,encGr,convs_r8j,conv_junkj]
       refine CW.sound ?_
       simp only [method_specs_simp,seval,encGr]
       refine Again.mk (i + 1) [0] h1 (Zc h1 (Zb _)) ?_
       have e1 : ZL (1 + r.length) ((insB (ltS g) r x).map encI) = (insB (ltS g) r x).map encI:=Zt (by rw [Zl]; omega)
       rw [hnx]
       simp only [mvcgen_simp,method_specs_simp,seval,encGr,w1,e1]
      ·obtain ⟨j,hj⟩ : ∃ j,j = k - 1:=⟨_,rfl⟩
       obtain ⟨y,hy⟩ : ∃ y,r[j]? = some y:=⟨_,Zd (by omega)⟩
       have hoy:=hom y (Zg hy)
       have hgd : r.getD j 0 = y:=by rw [ZG,hy]; rfl
       have w2 : IntKind.i64.wrap ((k : Int) - 1) = (j : Int):=by rw [hj]; exact wsub1 k (by omega) hpos
       have g1 : decide ((k : Int) > 0) = true:=by simp; omega
       have hps : posB (ltS g) r x k = if ltS g x y = true then posB (ltS g) r x j else k:=by
        have e : k = j + 1:=by omega
        rw [e,posB,hgd]
       simp only [method_specs_simp,seval,encGr,g1,w2,hol,hxi,hy,encI]
       refine ⟨by kernel_rfl,by omega,by omega,by omega,by omega,?_⟩
       have hless:=c_l06Less (P:=P) g h x y hox hoy
       rw [← hdl] at hless
       refine clY.con hless (by simp only [method_specs_simp,encGr]) ?_
       have hlt : decide (cmpD (DD g) (evOf g x) (evOf g y) < 0) = ltS g x y:=rfl
       rw [hlt]
       cases hl : ltS g x y with
       | true =>
        rw [hl,if_pos rfl] at hps
        simp only [method_specs_simp,seval,encGr,w2]
        have hp2 : posB (ltS g) r x i = posB (ltS g) r x j:=by rw [← hol]; exact hp.trans hps
        refine Again.mk j [0] ⟨by omega,hp2⟩ (by omega) ?_
        simp only [mvcgen_simp,method_specs_simp,seval,encGr]
       | false =>
        rw [hl,if_neg (by decide)] at hps
        rw [hps] at hp
        have hlt : (r.take k).length = k:=by rw [Zq]; omega
        have hld : (r.drop k).length = i - k:=by rw [List.length_drop]; omega
        have hall2 : (r.take k).map encI ++ [[V.int .i64 x]] ++ (r.drop k).map encI = (insB (ltS g) r x).map encI:=by unfold insB; rw [hp,Zu,ZO,ZJ]; rfl
        have hins : (insB (ltS g) r x).length = i + 1:=by rw [insB_len]; omega
        simp only [method_specs_simp,seval,encGr]
        refine CW.sound ?_
        simp only [method_specs_simp,seval,encGr,← List.map_take,← List.map_drop,Zr,hxi,encI,hlt,hld]
        refine ⟨by omega,by omega,by omega,by omega,by omega,by omega,by omega,by omega,by omega,by omega,by omega,by omega,by omega,?_⟩
        rw [hall2]
        refine SW.freeze [5] ?_
        simp only [mvcgen_simp,method_specs_simp,seval,encGr,convs_r8j,conv_junkj]
        refine CW.sound ?_
        simp only [method_specs_simp,seval,encGr]
        refine Again.mk (i + 1) [0] h1 (Zc h1 (Zb _)) ?_
        have e1 : ZL (k + 1 + (i - k)) ((insB (ltS g) r x).map encI) = (insB (ltS g) r x).map encI:=Zt (by rw [Zl]; omega)
        rw [hnx]
        simp only [mvcgen_simp,method_specs_simp,seval,encGr,w1,e1]
    ·have hi3 : i = ids.length:=by simp only [decide_eq_false_iff_not,Ze,Za] at h1; omega
     rw [hi3,Zt (Zj _)]
     have hom : ∀ y ∈ ordS g ids,Gm.hasId g.events y = true:=fun y hy=>hall y (ordS_mem g _ y hy)
     have hol : (ordS g ids).length = ids.length:=ordS_len g ids
     obtain ⟨r,hr⟩ : ∃ r,r = ordS g ids:=⟨_,rfl⟩
     rw [← hr] at hol hom ⊢
     refine SW.seq (CW.sound ?_)
     simp only [method_specs_simp,seval,encGr]
     refine SW.while (A:=Nat) (fun j=>⟨pad 138 [.junk,.junk,.junk,.ptr 0 0,.junk,.junk,.nil,.sl 3 ((((r.take j).map (evOf g)).foldl (stepR g) o).map encEnt),.junk,.junk,.junk,.sl 1 (r.map encI),.junk,.junk,.junk,.int .i64 j],[.box true (encGr g)],[]⟩) (fun j=>r.length - j) (fun j=>j ≤ r.length) 0 [0] (Zi _) ?_ ?_
     ·simp only [mvcgen_simp,method_specs_simp,seval,encGr,YO,Yh,List.foldl_nil]
     ·intro j hj
      have w3 : IntKind.i64.wrap ((j : Int) + 1) = ((j + 1 : Nat) : Int):=wadd1 j (by omega)
      have hsg : SG g (((r.take j).map (evOf g)).foldl (stepR g) o):=foldR_SG h _ (fun e he=>by
       obtain ⟨z,hz,rfl⟩:=ZI.1 he
       obtain ⟨e,h1,h2,_⟩:=evOf_at (hom z (Yx hz))
       rw [h2]; exact Zg h1) hsc
      refine CW.sound ?_
      simp only [method_specs_simp,seval,encGr]
      refine gB_split (fun h2=>?_) (fun h2=>?_)
      ·simp only [decide_eq_true_eq,Za] at h2
       obtain ⟨x,hxj⟩ : ∃ x,r[j]? = some x:=⟨_,Zd h2⟩
       have hox:=hom x (Zg hxj)
       obtain ⟨e,he1,he2,he3⟩:=evOf_at hox
       have hem:=Zg he1
       have hel:=Gm.fid_lt hox
       have hai : atI g.events x = ((Gm.fidE g.events x : Nat) : Int):=atI_yes hox
       obtain ⟨f,hf⟩ : ∃ f,f = Gm.fidE g.events x:=⟨_,rfl⟩
       rw [← hf] at he1 hel hai
       have hnx : ((r.take (j + 1)).map (evOf g)).foldl (stepR g) o = stepR g (((r.take j).map (evOf g)).foldl (stepR g) o) e:=by
        rw [Zf,hxj,Zh,Zu,Ye,YQ,he2]; rfl
       obtain ⟨u,hu⟩ : ∃ u,u = ((r.take j).map (evOf g)).foldl (stepR g) o:=⟨_,rfl⟩
       rw [← hu] at hsg hnx ⊢
       have hul:=SG.len h hsg
       simp only [method_specs_simp,seval,encGr,encEv,hxj,encI]
       refine ⟨by kernel_rfl,by omega,by omega,?_⟩
       refine clY.con (c_l03At g.events x (by omega)) (by simp only [method_specs_simp,encGr,encEv]) ?_
       simp only [method_specs_simp,seval,encGr,encEv,hai]
       simp only [method_specs_simp,seval,encGr,encEv,he1]
       refine ⟨by omega,by omega,?_⟩
       refine clY.con (c_l05Allowed g u e (SG.LS h hsg)) (by simp only [method_specs_simp,encGr,encEv]) ?_
       cases hal : (allowedE g u e == 0) with
       | true =>
        have hst : stepR g u e = putR u (entE e):=by
         have hid:=h.ids e hem
         unfold stepR
         rw [hal,if_pos rfl,putR_I hsg.srt (by show e.id ≠ 0; omega)]
        rw [hst] at hnx
        simp only [method_specs_simp,seval,encGr,encEv,hal]
        refine clY.con (c117 u (entE e) (by omega)) (by simp only [method_specs_simp,encEnt,entE]) ?_
        simp only [method_specs_simp,seval,encGr,encEv]
        refine Again.mk (j + 1) [0] h2 (Zc h2 (Zb _)) ?_
        rw [hnx]
        simp only [mvcgen_simp,method_specs_simp,seval,encGr,encEv,w3,putR]
       | false =>
        have hst : stepR g u e = u:=by unfold stepR; rw [hal]; rfl
        rw [hst] at hnx
        simp only [method_specs_simp,seval,encGr,encEv,hal]
        refine Again.mk (j + 1) [0] h2 (Zc h2 (Zb _)) ?_
        rw [hnx]
        simp only [mvcgen_simp,method_specs_simp,seval,encGr,encEv,w3]
      ·have hj2 : j = r.length:=by simp only [decide_eq_false_iff_not,Ze,Za] at h2; omega
       rw [hj2,Zt (Zj _)]
       refine CW.sound ?_
       simp only [method_specs_simp,seval,encGr,encEv]
end
def hsG (g : Gr) : Hs:=hsN g (DD g) (evsO g)
def oB (g : Gr) (A : List (Int × Option (List Ent))) : List (List V):=g.events.map fun e=>[fS (lookD A e.id none)]
def oR (g : Gr) (R : List (Int × Int)) : List (List V):=g.events.map fun e=>[V.int .i64 (lookD R e.id 0)]
theorem oB_len (g : Gr) (A : List (Int × Option (List Ent))) : (oB g A).length = g.events.length:=Zl _
theorem oR_len (g : Gr) (R : List (Int × Int)) : (oR g R).length = g.events.length:=Zl _
theorem oB_get {g : Gr} (A : List (Int × Option (List Ent))) {k : Nat} {e : Ev} (he : g.events[k]? = some e) : (oB g A)[k]? = some [fS (lookD A e.id none)]:=by unfold oB; rw [ZC,he]; rfl
theorem oR_get {g : Gr} (R : List (Int × Int)) {k : Nat} {e : Ev} (he : g.events[k]? = some e) : (oR g R)[k]? = some [V.int .i64 (lookD R e.id 0)]:=by unfold oR; rw [ZC,he]; rfl
theorem set_map {α : Type} {evs : List Ev} (hs : Gm.Srt evs) {k : Nat} {e : Ev} (he : evs[k]? = some e) (f f' : Ev → α) (h1 : ∀ x ∈ evs,x.id ≠ e.id → f' x = f x) : (evs.map f).set k (f' e) = evs.map f':=by
 apply List.ext_getElem?
 intro j
 rw [List.getElem?_set,Zl,ZC,ZC]
 have hkl:=(Zp.1 he).1
 by_cases hj : k = j
 ·subst hj
  rw [if_pos rfl,if_pos hkl,he]; rfl
 ·rw [if_neg hj]
  cases hx : evs[j]? with
  | none=>rfl
  | some x =>
   have hne : x.id ≠ e.id:=by
    rcases Nat.lt_or_gt_of_ne hj with h2 | h2
    ·have:=Gm.pw_get hs h2 he hx; omega
    ·have:=Gm.pw_get hs h2 hx he; omega
   simp only [Yo,h1 x (Zg hx) hne]
theorem oB_set {g : Gr} (h : GG g) (A : List (Int × Option (List Ent))) {k : Nat} {e : Ev} (he : g.events[k]? = some e) (s : List Ent) : (oB g A).set k [V.sl 3 (s.map encEnt)] = oB g (putK A e.id (some s)):=by
 have:=set_map h.srt he (fun e=>[fS (lookD A e.id none)]) (fun x=>[fS (lookD (putK A e.id (some s)) x.id none)]) (fun x _ hne=>by rw [lookD_ne A e.id x.id (some s) none hne])
 rw [lookD_putK] at this
 exact this
theorem oR_set {g : Gr} (h : GG g) (R : List (Int × Int)) {k : Nat} {e : Ev} (he : g.events[k]? = some e) (c : Int) : (oR g R).set k [V.int .i64 c] = oR g (putK R e.id c):=by
 have:=set_map h.srt he (fun e=>[V.int .i64 (lookD R e.id 0)]) (fun x=>[V.int .i64 (lookD (putK R e.id c) x.id 0)]) (fun x _ hne=>by rw [lookD_ne R e.id x.id c 0 hne])
 rw [lookD_putK] at this
 exact this
theorem oB_put {g : Gr} (h : GG g) (A : List (Int × Option (List Ent))) {k : Nat} {e : Ev} (he : g.events[k]? = some e) (s : List Ent) : (oB g A).set k (V.sl 3 (s.map encEnt) :: ZP 1 ((oB g A).getD k [])) = oB g (putK A e.id (some s)):=by
 rw [ZG,oB_get A he]
 exact oB_set h A he s
theorem oR_put {g : Gr} (h : GG g) (R : List (Int × Int)) {k : Nat} {e : Ev} (he : g.events[k]? = some e) (c : Int) : (oR g R).set k (V.int .i64 c :: ZP 1 ((oR g R).getD k [])) = oR g (putK R e.id c):=by
 rw [ZG,oR_get R he]
 exact oR_set h R he c
theorem oB_refs (ok : Nat → Prop) (g : Gr) (A : List (Int × Option (List Ent))) : Refss ok (oB g A) = True:=eq_true (Refss_map fun e=>⟨fS_ref ok _,trivial⟩)
theorem oR_refs (ok : Nat → Prop) (g : Gr) (R : List (Int × Int)) : Refss ok (oR g R) = True:=eq_true (Refss_map fun e=>⟨trivial,trivial⟩)
theorem oB_rens (ρ : Nat → Nat) (g : Gr) (A : List (Int × Option (List Ent))) : renss ρ (oB g A) = oB g A:=renss_map fun e=>⟨fS_ref _ _,trivial⟩
theorem oR_rens (ρ : Nat → Nat) (g : Gr) (R : List (Int × Int)) : renss ρ (oR g R) = oR g R:=renss_map fun e=>⟨trivial,trivial⟩
theorem oB_nil (g : Gr) : Zs g.events.length [V.nil] = oB g []:=by
 unfold oB
 rw [show (fun e : Ev=>[fS (lookD ([] : List (Int × Option (List Ent))) e.id none)]) = fun _=>[V.nil] from rfl,YR]
theorem oR_nil (g : Gr) : Zs g.events.length [V.int .i64 0] = oR g []:=by
 unfold oR
 rw [show (fun e : Ev=>[V.int .i64 (lookD ([] : List (Int × Int)) e.id 0)]) = fun _=>[V.int .i64 0] from rfl,YR]
theorem oB_take (g : Gr) (A : List (Int × Option (List Ent))) : ZL g.events.length (oB g A) = oB g A:=Zt (by rw [oB_len]; exact Zj _)
theorem oR_take (g : Gr) (A : List (Int × Int)) : ZL g.events.length (oR g A) = oR g A:=Zt (by rw [oR_len]; exact Zj _)
attribute [mvcgen_simp,method_specs_simp] oB_refs oR_refs oB_rens oR_rens oB_len oR_len
theorem oB_cv {m : List Ob} {q : Nat} {g : Gr} (h : GG g) (A : List (Int × Option (List Ent))) {k : Nat} {e : Ev} (he : g.events[k]? = some e) {s : List Ent} (hm : m[q]? = some (.arr false 3 (s.map encEnt))) : (((oB g A).set k (V.ar q 0 s.length :: ZP 1 ((oB g A).getD k []))).map fun x=>x.map (conv m)) = oB g (putK A e.id (some s)):=by
 have h1 : ZP 1 ((oB g A).getD k []) = []:=by rw [ZG,oB_get A he]; rfl
 have h2 : ((oB g A).map fun x=>x.map (conv m)) = oB g A:=by
  unfold oB
  rw [List.map_map]
  refine Wg fun x _=>?_
  show [conv m (fS (lookD A x.id none))] = [fS (lookD A x.id none)]
  cases lookD A x.id none <;> rfl
 have h3 : conv m (.ar q 0 s.length) = .sl 3 (s.map encEnt):=by
  simp only [conv,hm,YP]
  rw [Zt (by rw [Zl]; exact Zj _)]
 rw [h1,List.map_set,h2,ZO,Yh,h3]
 exact oB_set h A he s
theorem allowed_hide {g : Gr} {s : List Ent} {e : Ev} (h1 : (allowedE g s e == 0) = true) (h2 : (e.kind == 8) = true) : Gm.hasId g.events e.key = true:=by
 have h8 : e.kind = 8:=by simpa using h2
 have h0 : allowedE g s e = 0:=by simpa using h1
 rw [← atE_has]
 cases ha : (atE g.events e.key).isSome with
 | true=>rfl
 | false =>
  exfalso
  unfold allowedE at h0
  rw [h8,ha] at h0
  simp only [show ((8 : Int) == 1) = false from rfl,show ((8 : Int) == 2) = false from rfl,show ((8 : Int) == 3) = false from rfl,show ((8 : Int) == 4) = false from rfl,show ((8 : Int) == 5) = false from rfl,show ((8 : Int) == 6) = false from rfl,show ((8 : Int) == 8) = true from rfl,Yg,if_false,ZS,Bool.or_self,if_true] at h0
  split at h0
  ·omega
  ·split at h0 <;> omega
def kS (g : Gr) (x : Hs) : V:=.fptr [.sl 1 ((Gm.depthsE g.events).map encI),.sl 1 (oB g x.B),.sl 1 (oB g x.A),.sl 1 (oR g x.R)] 0
def kL (g : Gr) : V:=.fptr [.sl 1 ((Gm.depthsE g.events).map encI),.ar 1 0 g.events.length,.ar 2 0 g.events.length,.ar 3 0 g.events.length] 0
def kM (g : Gr) (x : Hs) : List Ob:=[.box true (encGr g),.arr true 1 (oB g x.B),.arr true 1 (oB g x.A),.arr true 1 (oR g x.R)]
theorem kS_ref (ok : Nat → Prop) (g : Gr) (x : Hs) : Ref ok (kS g x):=by
 simp only [kS,Refs,Ref,oB_refs,oR_refs,and_self,and_true]
 exact of_eq_true (encI_refs ok _)
section
variable {P : Program} [Is P]
theorem c_l06All (g : Gr) (h : GG g) : Con P 127 [.agg (encGr g)] (kS g (hsG g)):=by
 have h60:=h.n
 have hx:=h.hx
 have hdn:=(Gm.depths_ok g.events).len
 refine Con.ofS (n:=176) (rs:=[.tmp 2]) (Is.fn Tryz.func127) rfl (Is.call Tryz.call127) Tryz.results127 Tryz.ntmps127 (kS_ref _ g _) ?_
 refine SW.seq (CW.sound ?_)
 simp only [method_specs_simp,seval,encGr]
 refine SW.seq (CW.sound ?_)
 simp only [method_specs_simp,seval,encGr]
 refine SW.seq (CW.sound ?_)
 simp only [method_specs_simp,seval,encGr]
 refine ⟨by kernel_rfl,?_⟩
 refine clY.con (c_l03Depths g.events h.ok.1 h.ain) (by simp only [method_specs_simp]) ?_
 simp only [method_specs_simp,seval,encGr]
 refine ⟨by omega,by omega,by omega,by omega,by omega,by omega,by omega,by omega,by omega,?_⟩
 refine SW.freeze [4] ?_
 simp only [mvcgen_simp,method_specs_simp,seval,encGr,convs_r8j,conv_junkj]
 refine SW.wk [0,1,2,3] (st':=⟨pad 176 [.junk,.ptr 0 0,.junk,.int .i64 g.events.length,kL g],kM g ⟨DD g,[],[],[]⟩,[]⟩) ?_ ?_
 ·simp only [mvcgen_simp,method_specs_simp,seval,encGr,kL,kM,oB_nil,oR_nil]
 refine SW.seq (CW.sound ?_)
 simp only [method_specs_simp,seval,encGr,kM]
 refine clY.con (c_l03Sort g h.ok.1 h.ain h.pos) (by simp only [method_specs_simp,encGr]) ?_
 simp only [method_specs_simp,seval,encGr]
 refine SW.seq (CW.sound ?_)
 simp only [method_specs_simp,seval,encGr]
 refine SW.while (A:=Nat) (fun i=>⟨pad 176 [.junk,.ptr 0 0,.junk,.int .i64 g.events.length,kL g,.sl 1 ((orderE g.events).map encI),.int .i64 i],kM g (hsN g (DD g) ((evsO g).take i)),[]⟩) (fun i=>g.events.length - i) (fun i=>i ≤ g.events.length) 0 [0,1,2,3] (Zi _) ?_ ?_
 ·have h0 : hsN g (DD g) ((evsO g).take 0) = ⟨DD g,[],[],[]⟩:=rfl
  rw [h0]
  simp only [mvcgen_simp,method_specs_simp,seval,encGr,kM,kL]
 ·intro i hi
  have w1 : IntKind.i64.wrap ((i : Int) + 1) = ((i + 1 : Nat) : Int):=wadd1 i (by omega)
  refine SW.seq (CW.sound ?_)
  simp only [method_specs_simp,seval,encGr]
  refine gB_split (fun h1=>?_) (fun h1=>?_)
  ·simp only [decide_eq_true_eq,Za] at h1
   obtain ⟨id,hid⟩ : ∃ id,(orderE g.events)[i]? = some id:=⟨_,Zd (by rw [orderE_len]; exact h1)⟩
   obtain ⟨k',e,hk,hke',h3,h4,h5⟩:=order_place h hid
   have hev : (evsO g)[i]? = some e:=by unfold evsO; rw [ZC,hid,Yo,h4]
   have hnx : hsN g (DD g) ((evsO g).take (i + 1)) = addH g (hsN g (DD g) ((evsO g).take i)) e:=by rw [Zf,hev,Zh,hsN_snoc]
   have hDD : (hsN g (DD g) ((evsO g).take i)).D = DD g:=hsN_D g (DD g) _ _
   obtain ⟨hi1,hi2⟩:=(HI.at_ h (DD g) i hi).sts (order_prev h hev)
   have hfour:=h.four e h5
   have hhas : Gm.hasId g.events id = true:=by rw [← h3]; exact has_mem h5
   have hai : atI g.events id = ((Gm.fidE g.events id : Nat) : Int):=atI_yes hhas
   have hke : g.events[Gm.fidE g.events id]? = some e:=by
    obtain ⟨e2,he2,he3⟩:=Gm.fid_get hhas
    have a1:=at_mem h.srt (Zg he2)
    have a2:=at_mem h.srt h5
    rw [he3,← h3,a2] at a1
    injection a1 with a1
    rw [he2,← a1]
   have hkl:=Gm.fid_lt hhas
   obtain ⟨k,hkk⟩ : ∃ k,k = Gm.fidE g.events id:=⟨_,rfl⟩
   rw [← hkk] at hai hke hkl
   have hsl : SL g (stsA (hsN g (DD g) ((evsO g).take i)).A e.prev):=SL.of h (by rw [stsA_len]; omega) hi2
   obtain ⟨x,hxx⟩ : ∃ x,x = hsN g (DD g) ((evsO g).take i):=⟨_,rfl⟩
   rw [← hxx] at hi1 hi2 hsl hnx hDD ⊢
   refine SW.seq (SW.block ?_)
   refine SW.seq (CW.sound ?_)
   simp only [method_specs_simp,seval,encGr,encEv,kL,kM,hid,encI,orderE_len]
   refine ⟨by kernel_rfl,by omega,by omega,?_⟩
   refine clY.con (c_l03At g.events id (by omega)) (by simp only [method_specs_simp,encGr,encEv,kL,kM]) ?_
   simp only [method_specs_simp,seval,encGr,encEv,kL,kM,hai]
   refine SW.seq (CW.sound ?_)
   simp only [method_specs_simp,seval,encGr,encEv,kL,kM,hke]
   refine ⟨by omega,by omega,?_⟩
   refine SW.freeze [4] ?_
   simp only [mvcgen_simp,method_specs_simp,seval,encGr,encEv,kL,kM,convs_r8j,conv_junkj]
   refine SW.seq (CW.sound ?_)
   simp only [method_specs_simp,seval,encGr,encEv,kL,kM]
   refine SW.seq (CW.sound ?_)
   simp only [method_specs_simp,seval,encGr,encEv,kL,kM]
   have hSl : ∀ j,j ≤ e.prev.length → (stsA x.A (e.prev.take j)).length = j:=fun j hj=>by rw [stsA_len,Zq]; omega
   refine SW.while (A:=Nat) (fun j=>⟨pad 176 [.junk,.ptr 0 0,.junk,.int .i64 g.events.length,kL g,.sl 1 ((orderE g.events).map encI),.int .i64 i,.int .i64 k,.fptr (encEv e) 0,.ar 4 0 j,.int .i64 j],kM g x ++ [.arr true 1 ((stsA x.A (e.prev.take j)).map encSS)],[]⟩) (fun j=>e.prev.length - j) (fun j=>j ≤ e.prev.length) 0 [0,1,2,3,5] (Zi _) ?_ ?_
   ·have h0 : stsA x.A (e.prev.take 0) = []:=rfl
    rw [h0]
    simp only [mvcgen_simp,method_specs_simp,seval,encGr,encEv,kL,kM]
   ·intro j hj
    have hjl:=hSl j hj
    have w2 : IntKind.i64.wrap ((j : Int) + 1) = ((j + 1 : Nat) : Int):=wadd1 j (by omega)
    refine CW.sound ?_
    simp only [method_specs_simp,seval,encGr,encEv,kL,kM]
    refine gB_split (fun h2=>?_) (fun h2=>?_)
    ·simp only [decide_eq_true_eq,Za] at h2
     obtain ⟨p,hp⟩ : ∃ p,e.prev[j]? = some p:=⟨_,Zd h2⟩
     have hpm:=Zg hp
     obtain ⟨s,hsv⟩:=Yy.1 (hi1 p hpm)
     have hph : Gm.hasId g.events p = true:=by
      have:=h.ain e h5
      rw [Gm.allIn,Zn] at this
      exact this p hpm
     obtain ⟨ep,hep,hepi⟩:=Gm.fid_get hph
     have hpl:=Gm.fid_lt hph
     have hpi : atI g.events p = ((Gm.fidE g.events p : Nat) : Int):=atI_yes hph
     obtain ⟨f,hf⟩ : ∃ f,f = Gm.fidE g.events p:=⟨_,rfl⟩
     rw [← hf] at hep hpl hpi
     have hget : (oB g x.A)[f]? = some [V.sl 3 (s.map encEnt)]:=by rw [oB_get x.A hep,hepi,hsv]; rfl
     have hnS : stsA x.A (e.prev.take (j + 1)) = stsA x.A (e.prev.take j) ++ [s]:=by unfold stsA; rw [Zf,hp,Zh,Zu,YQ,hsv]; rfl
     have e1 : (stsA x.A (e.prev.take j)).map encSS ++ [[V.sl 3 (s.map encEnt)]] = (stsA x.A (e.prev.take (j + 1))).map encSS:=by rw [hnS,Zu]; rfl
     simp only [method_specs_simp,seval,encGr,encEv,kL,kM,hp,encI,hjl]
     refine ⟨by kernel_rfl,by omega,by omega,?_⟩
     refine clY.con (c_l03At g.events p (by omega)) (by simp only [method_specs_simp,encGr,encEv,kL,kM]) ?_
     simp only [method_specs_simp,seval,encGr,encEv,kL,kM,hpi]
     simp only [method_specs_simp,seval,encGr,encEv,kL,kM,hget]
     refine ⟨by omega,by omega,hjl,by omega,by omega,?_⟩
     rw [e1]
     refine Again.mk (j + 1) [0,1,2,3,6] h2 (Zc h2 (Zb _)) ?_
     simp only [mvcgen_simp,method_specs_simp,seval,encGr,encEv,kL,kM,w2]
    ·have hj2 : j = e.prev.length:=by simp only [decide_eq_false_iff_not,Ze,Za] at h2; omega
     have htk : e.prev.take j = e.prev:=by rw [hj2]; exact Zr
     rw [htk] at hjl ⊢
     obtain ⟨S,hS⟩ : ∃ S,S = stsA x.A e.prev:=⟨_,rfl⟩
     rw [← hS] at hjl hsl hi2 ⊢
     refine SW.freeze [4] ?_
     simp only [mvcgen_simp,method_specs_simp,seval,encGr,encEv,kL,kM,convs_r8j,conv_junkj]
     have e2 : ZL j (S.map encSS) = S.map encSS:=Zt (by rw [Zl]; omega)
     rw [e2]
     have hsg : SG g (resI g (DD g) S):=resI_SG h hi2
     refine SW.seq (CW.sound ?_)
     simp only [method_specs_simp,seval,encGr,encEv,kL,kM]
     refine ⟨by kernel_rfl,?_⟩
     refine clY.con (c_l06Resolve g S h hi2 (by omega)) (by simp only [method_specs_simp,encGr]) ?_
     obtain ⟨s,hs⟩ : ∃ s,s = resI g (DD g) S:=⟨_,rfl⟩
     rw [← hs] at hsg ⊢
     have hul:=SG.len h hsg
     simp only [method_specs_simp,seval,encGr,encEv,kL,kM]
     refine ⟨by omega,by omega,by omega,?_⟩
     rw [oB_put h x.B hke s]
     have hgB : (oB g (putK x.B e.id (some s)))[k]? = some [V.sl 3 (s.map encEnt)]:=by rw [oB_get _ hke,lookD_putK]; rfl
     obtain ⟨B2,hB2⟩ : ∃ B2,B2 = putK x.B e.id (some s):=⟨_,rfl⟩
     rw [← hB2] at hgB ⊢
     refine SW.seq (CW.sound ?_)
     simp only [method_specs_simp,seval,encGr,encEv,kL,kM,hgB]
     refine ⟨by kernel_rfl,by omega,by omega,?_⟩
     refine clY.con (c_l05Allowed g s e (SG.LS h hsg)) (by simp only [method_specs_simp,encGr,encEv]) ?_
     simp only [method_specs_simp,seval,encGr,encEv,kL,kM]
     refine ⟨by omega,by omega,by omega,?_⟩
     rw [oR_put h x.R hke (allowedE g s e)]
     have hgR : (oR g (putK x.R e.id (allowedE g s e)))[k]? = some [V.int .i64 (allowedE g s e)]:=by rw [oR_get _ hke,lookD_putK]
     have hR3 : ∀ c,(oR g (putK x.R e.id (allowedE g s e))).set k (V.int .i64 c :: ZP 1 ((oR g (putK x.R e.id (allowedE g s e))).getD k [])) = oR g (putK x.R e.id c):=fun c=>by rw [oR_put h _ hke c,putK_putK]
     refine sw_meet ⟨pad 176 [.junk,.ptr 0 0,.junk,.int .i64 g.events.length,kL g,.sl 1 ((orderE g.events).map encI),.int .i64 i,.int .i64 k,.fptr (encEv e) 0],[.box true (encGr g),.arr true 1 (oB g B2),.arr true 1 (oB g x.A),.arr true 1 (oR g (putK x.R e.id (codeH g s e)))],[]⟩ ?_ ?_
     ·refine CW.sound ?_
      simp only [method_specs_simp,seval,encGr,encEv,kL,kM,hgR]
      refine ⟨by omega,by omega,?_⟩
      cases k1 : (allowedE g s e == 0) with
      | false =>
       have hc : codeH g s e = allowedE g s e:=by unfold codeH; rw [k1]; rfl
       simp only [method_specs_simp,seval,encGr,encEv,kL,kM]
       refine again_meet [0,1,2,3] ?_
       rw [hc]
       simp only [mvcgen_simp,method_specs_simp,seval,encGr,encEv,kL,kM]
      | true =>
       simp only [method_specs_simp,seval,encGr,encEv,kL,kM,k1]
       cases k2 : (e.kind == 8) with
       | false =>
        have hc : codeH g s e = allowedE g s e:=by unfold codeH; rw [k2]; simp
        simp only [method_specs_simp,seval,encGr,encEv,kL,kM,k2]
        refine again_meet [0,1,2,3] ?_
        rw [hc]
        simp only [mvcgen_simp,method_specs_simp,seval,encGr,encEv,kL,kM]
       | true =>
        simp only [method_specs_simp,seval,encGr,encEv,kL,kM,k2]
        refine clY.con (c_l03Ahead g e.key e h h5 (allowed_hide k1 k2)) (by simp only [method_specs_simp,encGr]) ?_
        cases k3 : aheadE g e.key e with
        | true =>
         have hc : codeH g s e = allowedE g s e:=by unfold codeH; rw [k3]; simp
         simp only [method_specs_simp,seval,encGr,encEv,kL,kM]
         refine again_meet [0,1,2,3] ?_
         rw [hc]
         simp only [mvcgen_simp,method_specs_simp,seval,encGr,encEv,kL,kM]
        | false =>
         have hc : codeH g s e = 6:=by unfold codeH; rw [k3,k1,k2]; rfl
         simp only [method_specs_simp,seval,encGr,encEv,kL,kM]
         refine ⟨by omega,by omega,by omega,?_⟩
         rw [hR3]
         refine again_meet [0,1,2,3] ?_
         rw [hc]
         simp only [mvcgen_simp,method_specs_simp,seval,encGr,encEv,kL,kM]
     ·have hcR : (oR g (putK x.R e.id (codeH g s e)))[k]? = some [V.int .i64 (codeH g s e)]:=by rw [oR_get _ hke,lookD_putK]
      obtain ⟨R2,hR2⟩ : ∃ R2,R2 = putK x.R e.id (codeH g s e):=⟨_,rfl⟩
      rw [← hR2] at hcR ⊢
      refine SW.seq (SW.drawnK [0,1,2,3,4] 13 mixed (by kernel_rfl) (by kernel_rfl) (by kernel_rfl) ?_ ?_)
      ·simp only [method_specs_simp,seval,encGr,encEv,kL,kM,Yl,YI]
      show RQi P _ _ _ _ _
      simp only [method_specs_simp,seval,encGr,encEv,kL,kM,hgB]
      refine ⟨by omega,by omega,by omega,by omega,by omega,by omega,by omega,?_⟩
      refine SW.freeze [4] ?_
      simp only [mvcgen_simp,method_specs_simp,seval,encGr,encEv,kL,kM,convs_r8j,conv_junkj]
      refine SW.cvo 2 rfl (oB_cv h x.A hke rfl) ?_
      have hA3 : ∀ u,(oB g (putK x.A e.id (some s))).set k (V.sl 3 (u.map encEnt) :: ZP 1 ((oB g (putK x.A e.id (some s))).getD k [])) = oB g (putK x.A e.id (some u)):=fun u=>by rw [oB_put h _ hke u,putK_putK]
      have hend : ∀ b : Bool,(codeH g s e == 0 && decide (e.kind ≤ 6)) = b → behH g s e = if b then putI s (entE e) else s:=fun b hb=>by unfold behH; rw [hb]
      have hadd : addH g x e = ⟨DD g,B2,putK x.A e.id (some (behH g s e)),R2⟩:=by rw [hB2,hR2,hs,hS,← hDD]; rfl
      refine CW.sound ?_
      simp only [method_specs_simp,seval,encGr,encEv,kL,kM,hcR]
      refine ⟨by omega,by omega,?_⟩
      cases k1 : (codeH g s e == 0) with
      | false =>
       have hb:=hend false (by rw [k1]; rfl)
       rw [if_neg (by decide)] at hb
       rw [hb] at hadd
       simp only [method_specs_simp,seval,encGr,encEv,kL,kM,k1]
       refine CW.sound ?_
       simp only [method_specs_simp,seval,encGr,encEv,kL,kM]
       refine Again.mk (i + 1) [0,1,2,3] h1 (Zc h1 (Zb _)) ?_
       rw [hnx,hadd]
       simp only [mvcgen_simp,method_specs_simp,seval,encGr,encEv,kL,kM,w1]
      | true =>
       cases k2 : decide (e.kind ≤ 6) with
       | false =>
        have hb:=hend false (by rw [k1,k2]; rfl)
        rw [if_neg (by decide)] at hb
        rw [hb] at hadd
        simp only [method_specs_simp,seval,encGr,encEv,kL,kM,k1,k2]
        refine CW.sound ?_
        simp only [method_specs_simp,seval,encGr,encEv,kL,kM]
        refine Again.mk (i + 1) [0,1,2,3] h1 (Zc h1 (Zb _)) ?_
        rw [hnx,hadd]
        simp only [mvcgen_simp,method_specs_simp,seval,encGr,encEv,kL,kM,w1]
       | true =>
        have hb:=hend true (by rw [k1,k2]; rfl)
        rw [if_pos rfl] at hb
        have hid:=h.ids e h5
        rw [hb,← putR_I hsg.srt (show (entE e).id ≠ 0 by show e.id ≠ 0; omega)] at hadd
        simp only [method_specs_simp,seval,encGr,encEv,kL,kM,k1,k2,hgB]
        refine ⟨by kernel_rfl,by omega,by omega,?_⟩
        refine clY.con (c117 s (entE e) (by omega)) (by simp only [method_specs_simp,encEnt,entE]) ?_
        simp only [method_specs_simp,seval,encGr,encEv,kL,kM]
        refine ⟨by omega,by omega,by omega,?_⟩
        have hA4:=hA3 (putR s (entE e))
        unfold putR at hA4
        rw [hA4]
        refine CW.sound ?_
        simp only [method_specs_simp,seval,encGr,encEv,kL,kM]
        refine Again.mk (i + 1) [0,1,2,3] h1 (Zc h1 (Zb _)) ?_
        rw [hnx,hadd]
        simp only [mvcgen_simp,method_specs_simp,seval,encGr,encEv,kL,kM,w1,putR]
  ·have hi3 : i = g.events.length:=by simp only [decide_eq_false_iff_not,Ze,Za] at h1; omega
   have hev : (evsO g).take i = evsO g:=Zt (by rw [evsO_len,hi3]; exact Zj _)
   rw [hev]
   obtain ⟨x,hxx⟩ : ∃ x,x = hsN g (DD g) (evsO g):=⟨_,rfl⟩
   have hfin : hsG g = x:=hxx.symm
   rw [hfin,← hxx]
   refine SW.freeze [1,2,3] ?_
   simp only [mvcgen_simp,method_specs_simp,seval,encGr,kL,kM,convs_r8j,conv_junkj]
   refine sw_deep 2 ?_
   simp only [mvcgen_simp,method_specs_simp,seval,encGr,kL,kM,map_r8,ZO,Yh]
   refine CW.sound ?_
   simp only [method_specs_simp,seval,encGr,kL,kM,kS,oB_take,oR_take]
end
def thereG (g : Gr) (id : Int) : Bool:=Gm.grRight g && Gm.hasId g.events id
def refG (g : Gr) (id : Int) : Int:=if thereG g id then lookD (hsG g).R id 0 else -1
def aheadG (g : Gr) (id : Int) : List Ent:=(lookD (hsG g).B id none).getD []
def behindG (g : Gr) (id : Int) : List Ent:=(lookD (hsG g).A id none).getD []
theorem hsG_in {g : Gr} (h : GG g) {id : Int} (hi : Gm.hasId g.events id = true) : (lookD (hsG g).B id none = some (aheadG g id) ∧ SG g (aheadG g id)) ∧ (lookD (hsG g).A id none = some (behindG g id) ∧ SG g (behindG g id)):=by
 have hI:=HI.at_ h (DD g) g.events.length (Zj _)
 rw [Zt (by rw [orderE_len]; exact Zj _),Zt (by rw [evsO_len]; exact Zj _)] at hI
 have hm : id ∈ orderE g.events:=by
  obtain ⟨e,he,hid⟩:=Gm.hasId_iff.1 hi
  obtain ⟨z,hz,hze⟩:=ZI.1 (evsO_all h e he)
  obtain ⟨i,hzi⟩:=Zx hz
  obtain ⟨k,e',_,_,h1,h2,_⟩:=order_place h hzi
  rw [← hid,← hze,h2,h1]; exact hz
 obtain ⟨s,h1,h2⟩:=hI.B id hm
 obtain ⟨u,h3,h4⟩:=hI.A id hm
 have e1 : lookD (hsG g).B id none = some s:=h1
 have e2 : lookD (hsG g).A id none = some u:=h3
 unfold aheadG behindG
 rw [e1,e2]
 exact ⟨⟨rfl,h2⟩,rfl,h4⟩
end Go.Proofs.YtiafnciiieofmaaGreat
end
section
namespace Go.Proofs.YtiafnciiieofmaaGreat
open Go.Pm
def keptI (p : Int → Bool) (xs : List Int) : List Int:=xs.filter fun x=>!p x
end Go.Proofs.YtiafnciiieofmaaGreat
end
section
namespace Go.Proofs.YtiafnciiieofmaaGreat
open Go.Pm
open Go.Gm (Ev Gr)
def okE (x : Hs) (e : Ev) : Bool:=lookD x.R e.id 0 == 0
def accI (g : Gr) (x : Hs) : List Int:=(g.events.filter (okE x)).map (·.id)
def hitI (g : Gr) (id i : Int) : Bool:=(evOf g id).prev.contains i
def endsI (g : Gr) (ids l : List Int) : List Int:=ids.foldl (fun o id=>keptI (hitI g id) o) l
theorem endsI_filter (g : Gr) : ∀ (ids l : List Int),endsI g ids l = l.filter fun i=>!(ids.any fun id=>hitI g id i)
 | [],l=>by
   show l = l.filter fun i=>!(([] : List Int).any fun id=>hitI g id i)
   exact (YS.2 fun i _=>rfl).symm
 | id :: ids,l=>by
   show endsI g ids (keptI (hitI g id) l) = _
   rw [endsI_filter g ids]
   unfold keptI
   rw [Wh]
   refine Yz fun i _=>?_
   simp only [List.any_cons,Bool.not_or,Bool.and_comm]
section
variable {P : Program} [Is P]
theorem c_accepted (g : Gr) (x : Hs) (h : GG g) : Con P 77 [hF g x] (.sl 1 ((accI g x).map encI)):=by
 have h60:=h.n
 refine Con.ofS (n:=32) (rs:=[.tmp 2]) (Is.fn Tryz.func77) rfl (Is.call Tryz.call77) Tryz.results77 Tryz.ntmps77 (by simp only [method_specs_simp]) ?_
 refine SW.seq (CW.sound ?_)
 simp only [method_specs_simp,seval,hF]
 refine SW.seq (CW.sound ?_)
 simp only [method_specs_simp,seval,hF]
 refine SW.seq (CW.sound ?_)
 simp only [method_specs_simp,seval,hF]
 obtain ⟨A,hA⟩ : ∃ A : Nat → List Int,A = fun i=>((g.events.take i).filter (okE x)).map (·.id):=⟨_,rfl⟩
 have hA0 : A 0 = []:=by rw [hA]; rfl
 have hAn : A g.events.length = accI g x:=by rw [hA]; unfold accI; show ((g.events.take g.events.length).filter (okE x)).map (·.id) = _; rw [Zr]
 have hAl : ∀ i,(A i).length ≤ i:=fun i=>by
  have h1:=Yn (okE x) (g.events.take i)
  rw [Zq] at h1
  rw [hA,Zl]; omega
 have hAs : ∀ i e,g.events[i]? = some e → A (i + 1) = A i ++ if okE x e then [e.id] else []:=fun i e he=>by
  rw [hA]
  show ((g.events.take (i + 1)).filter (okE x)).map (·.id) = _
  rw [Zf,he,Zh,YA,Zu]
  cases ho : okE x e <;> simp [ho]
 refine SW.while (A:=Nat) (fun i=>⟨pad 32 [hF g x,.junk,.nil,.ar 0 0 (A i).length,.junk,.junk,.junk,.junk,.junk,.junk,.junk,.sl 9 (g.events.map encEv),.int .i64 g.events.length,.int .i64 i],[.arr true 1 ((A i).map encI)],[]⟩) (fun i=>g.events.length - i) (fun i=>i ≤ g.events.length) 0 [0] (Zi _) ?_ ?_
 ·rw [hA0]
  simp only [mvcgen_simp,method_specs_simp,seval,hF]
 ·intro i hi
  have w1 : IntKind.i64.wrap ((i : Int) + 1) = ((i + 1 : Nat) : Int):=wadd1 i (by omega)
  have hal:=hAl i
  refine CW.sound ?_
  simp only [method_specs_simp,seval,hF]
  refine gB_split (fun h1=>?_) (fun h1=>?_)
  ·simp only [decide_eq_true_eq,Za] at h1
   obtain ⟨e,he⟩ : ∃ e,g.events[i]? = some e:=⟨_,Zd h1⟩
   have hnx:=hAs i e he
   obtain ⟨a,ha⟩ : ∃ a,a = A i:=⟨_,rfl⟩
   rw [← ha] at hnx hal ⊢
   simp only [method_specs_simp,seval,hF,he,encEv]
   refine ⟨by omega,by omega,by kernel_rfl,?_⟩
   refine lkY.ints (V.int .i64) x.R 0 rfl (by simp only [method_specs_simp]) ?_
   simp only [method_specs_simp,seval,hF]
   have hok : okE x e = (lookD x.R e.id 0 == 0):=rfl
   rw [← hok]
   cases ho : okE x e with
   | true =>
    rw [ho,if_pos rfl] at hnx
    have e1 : a.map encI ++ [[V.int .i64 e.id]] = (A (i + 1)).map encI:=by rw [hnx,Zu]; rfl
    have e2 : a.length + 1 = (A (i + 1)).length:=by rw [hnx,ZB]; rfl
    simp only [method_specs_simp,seval,hF]
    refine ⟨by omega,by omega,?_⟩
    rw [e1,e2]
    refine Again.mk (i + 1) [3] h1 (Zc h1 (Zb _)) ?_
    simp only [mvcgen_simp,method_specs_simp,seval,hF,w1]
   | false =>
    rw [ho,if_neg (by decide),Zz] at hnx
    simp only [method_specs_simp,seval,hF]
    refine Again.mk (i + 1) [0] h1 (Zc h1 (Zb _)) ?_
    rw [hnx]
    simp only [mvcgen_simp,method_specs_simp,seval,hF,w1]
  ·have hi2 : i = g.events.length:=by simp only [decide_eq_false_iff_not,Ze,Za] at h1; omega
   rw [hi2,hAn]
   refine CW.sound ?_
   simp only [method_specs_simp,seval,hF,Zt,Zl,Zj]
def endsP (g : Gr) (ids S : List Int) (j : Nat) : List Int:=endsI g (ids.take j) S ++ Zs (S.length - (endsI g (ids.take j) S).length) 0
def endsG (g : Gr) (x : Hs) : List Int:=endsI g (accI g x) (accI g x)
end
def takL (g : Gr) (p : Ev → Bool) : List Bool:=g.events.map (p)
theorem takL_len (g : Gr) (p : Ev → Bool) : (takL g p).length = g.events.length:=Zl _
theorem takL_get {g : Gr} {p : Ev → Bool} {k : Nat} {e : Ev} (he : g.events[k]? = some e) : (takL g p)[k]? = some (p e):=by unfold takL; rw [ZC,he]; rfl
def tkP (g : Gr) (p : Ev → Bool) (i : Nat) : List Bool:=(takL g p).take i ++ Zs (g.events.length - i) false
theorem tkP_len {g : Gr} {p : Ev → Bool} {i : Nat} (h : i ≤ g.events.length) : (tkP g p i).length = g.events.length:=by
 unfold tkP
 rw [ZB,Zq,Wa,takL_len]
 omega
theorem tkP_next {g : Gr} {p : Ev → Bool} {i : Nat} {e : Ev} (he : g.events[i]? = some e) : (tkP g p i).set i (p e) = tkP g p (i + 1):=by
 have hi:=(Zp.1 he).1
 have hl : ((takL g p).take i).length = i:=by rw [Zq,takL_len]; omega
 unfold tkP
 rw [YT _ _ (by omega),hl,ZT,show g.events.length - i = (g.events.length - (i + 1)) + 1 by omega,Yk,YU,Zf,takL_get he,Zh,ZJ]
 rfl
def endB (g : Gr) (p : Ev → Bool) (e : Ev) : Bool:=p e && g.events.all fun e'=>!(p e' && e'.prev.contains e.id)
def endsR (g : Gr) (p : Ev → Bool) (i : Nat) : List Int:=((g.events.take i).filter (endB g p)).map (·.id)
theorem endsR_len (g : Gr) (p : Ev → Bool) (i : Nat) : (endsR g p i).length ≤ i:=by
 have h1:=Yn (endB g p) (g.events.take i)
 rw [Zq] at h1
 unfold endsR
 rw [Zl]; omega
theorem endsR_next {g : Gr} {p : Ev → Bool} {i : Nat} {e : Ev} (he : g.events[i]? = some e) : endsR g p (i + 1) = endsR g p i ++ if endB g p e then [e.id] else []:=by
 unfold endsR
 rw [Zf,he,Zh,YA,Zu]
 cases ho : endB g p e <;> simp [ho]
theorem evOf_mem {g : Gr} (h : GG g) {e : Ev} (he : e ∈ g.events) : evOf g e.id = e:=by unfold evOf; rw [at_mem h.srt he]; rfl
def endsQ (g : Gr) (p : Ev → Bool) : List Int:=endsR g p g.events.length
theorem endsR_any {g : Gr} (h : GG g) (p : Ev → Bool) {ids : List Int} (hids : ∀ id,id ∈ ids ↔ ∃ e ∈ g.events,p e = true ∧ e.id = id) : endsI g ids ((g.events.filter p).map (·.id)) = endsQ g p:=by
 unfold endsQ endsR
 rw [Zr,endsI_filter]
 rw [List.filter_map,Wh]
 congr 1
 refine Yz fun e he=>?_
 show ((!(ids.any fun id=>hitI g id e.id)) && p e) = endB g p e
 unfold endB
 rw [Bool.and_comm]
 congr 1
 rw [ZE,Zn,ZR,Ym]
 constructor
 ·intro h1 e' he'
  cases ho : p e' with
  | false=>rfl
  | true =>
   have:=h1 e'.id ((hids _).2 ⟨e',he',ho,rfl⟩)
   unfold hitI at this
   rw [evOf_mem h he'] at this
   simpa using this
 ·intro h1 id hid
  obtain ⟨e',h2,h3,rfl⟩:=(hids id).1 hid
  have:=h1 e' h2
  rw [h3,ZH] at this
  unfold hitI
  rw [evOf_mem h h2]
  simpa using this
theorem endsR_all {g : Gr} (h : GG g) (x : Hs) : endsR g (okE x) g.events.length = endsG g x:=by
 unfold endsG
 rw [show accI g x = (g.events.filter (okE x)).map (·.id) from rfl]
 refine (endsR_any h (okE x) fun id=>?_).symm
 rw [ZI]
 constructor
 ·rintro ⟨e,he,rfl⟩
  exact ⟨e,(ZK.1 he).1,(ZK.1 he).2,rfl⟩
 ·rintro ⟨e,h1,h2,rfl⟩
  exact ⟨e,ZK.2 ⟨h1,h2⟩,rfl⟩
def endK (g : Gr) (p : Ev → Bool) (e : Ev) (k : Nat) : Bool:=p e && (g.events.take k).all fun e'=>!(p e' && e'.prev.contains e.id)
def endJ (g : Gr) (p : Ev → Bool) (e : Ev) (k : Nat) (l : List Int) (j : Nat) : Bool:=endK g p e k && (l.take j).all fun q=>q != e.id
theorem endK_all (g : Gr) (p : Ev → Bool) (e : Ev) : endK g p e g.events.length = endB g p e:=by unfold endK; rw [Zr]; rfl
theorem endJ_zero (g : Gr) (p : Ev → Bool) (e : Ev) (k : Nat) (l : List Int) : endJ g p e k l 0 = endK g p e k:=by unfold endJ; simp
theorem endJ_next {g : Gr} {p : Ev → Bool} {e : Ev} {k : Nat} {l : List Int} {j : Nat} {q : Int} (h : l[j]? = some q) : endJ g p e k l (j + 1) = (endJ g p e k l j && (q != e.id)):=by
 unfold endJ
 rw [Zf,h,Zh,YV,Bool.and_assoc]
 simp
theorem endK_skip {g : Gr} {p : Ev → Bool} {e e' : Ev} {k : Nat} (h : g.events[k]? = some e') (ho : p e' = false) : endK g p e (k + 1) = endK g p e k:=by
 unfold endK
 rw [Zf,h,Zh,YV]
 simp [ho]
theorem endK_next {g : Gr} {p : Ev → Bool} {e e' : Ev} {k : Nat} (h : g.events[k]? = some e') (ho : p e' = true) : endK g p e (k + 1) = endJ g p e k e'.prev e'.prev.length:=by
 have hc : (!e'.prev.contains e.id) = e'.prev.all fun q=>q != e.id:=by
  rw [ZE,ZR,Zn]
  constructor
  ·intro h1 q hp
   rw [bne_iff_ne]
   rintro rfl
   rw [Zk.2 hp] at h1; cases h1
  ·intro h1
   cases hb : e'.prev.contains e.id with
   | false=>rfl
   | true =>
    have:=h1 e.id (Zk.1 hb)
    simp at this
 unfold endJ endK
 rw [Zf,h,Zh,YV,Zr,← hc]
 simp [ho,Bool.and_assoc]
section
variable {P : Program} [Is P]
theorem c_l06Taken (g : Gr) (x : Hs) (hn : g.events.length ≤ 60) : Con P 129 [kS g x] (.sl 1 ((takL g (okE x)).map encB)):=by
 refine Con.of (n:=29) (rs:=[.tmp 2]) (Is.fn Tryz.func129) rfl (Is.call Tryz.call129) Tryz.results129 Tryz.ntmps129 (by simp only [method_specs_simp]) ?_
 simp only [method_specs_simp,seval,kS]
 refine ⟨by omega,by omega,by omega,?_⟩
 have hz : Zs g.events.length [V.bool false] = (tkP g (okE x) 0).map encB:=by unfold tkP; rw [YO,ZY,Nat.sub_zero,List.map_replicate]; rfl
 rw [hz]
 refine SW.while (A:=Nat) (fun i=>⟨pad 29 [kS g x,.junk,.nil,.ar 0 0 g.events.length,.int .i64 i],[.arr true 1 ((tkP g (okE x) i).map encB)],[]⟩) (fun i=>g.events.length - i) (fun i=>i ≤ g.events.length) 0 [0] (Zi _) ?_ ?_
 ·simp only [mvcgen_simp,method_specs_simp,seval,kS]
 ·intro i hi
  have w1 : IntKind.i64.wrap ((i : Int) + 1) = ((i + 1 : Nat) : Int):=wadd1 i (by omega)
  have htl:=tkP_len (p:=okE x) hi
  refine CW.sound ?_
  simp only [method_specs_simp,seval,kS]
  refine gB_split (fun h1=>?_) (fun h1=>?_)
  ·simp only [decide_eq_true_eq,Za] at h1
   obtain ⟨e,he⟩ : ∃ e,g.events[i]? = some e:=⟨_,Zd h1⟩
   have hgR:=oR_get x.R he
   have hnx:=tkP_next (p:=okE x) he
   have hok : (lookD x.R e.id 0 == 0) = okE x e:=rfl
   simp only [method_specs_simp,seval,kS,hgR,hok]
   refine ⟨by omega,by omega,by omega,by omega,by omega,?_⟩
   rw [hnx]
   refine Again.mk (i + 1) [0] h1 (Zc h1 (Zb _)) ?_
   simp only [mvcgen_simp,method_specs_simp,seval,kS,w1]
  ·have hi2 : i = g.events.length:=by simp only [decide_eq_false_iff_not,Ze,Za] at h1; omega
   have hall : tkP g (okE x) i = takL g (okE x):=by
    unfold tkP
    rw [hi2,ZT,List.replicate_zero,Zz,Zt (by rw [takL_len]; exact Zj _)]
   have htk : ZL g.events.length ((takL g (okE x)).map encB) = (takL g (okE x)).map encB:=Zt (by rw [Zl,takL_len]; exact Zj _)
   rw [hall]
   simp only [method_specs_simp,seval,kS,htk]
theorem c_l06Ends (g : Gr) (p : Ev → Bool) (h : GG g) : Con P 160 [.agg (encGr g),.sl 1 ((takL g p).map encB)] (.sl 1 ((endsQ g p).map encI)):=by
 have h60:=h.n
 have htl:=takL_len g p
 unfold endsQ
 refine Con.ofS (n:=76) (rs:=[.tmp 4]) (Is.fn Tryz.func160) rfl (Is.call Tryz.call160) Tryz.results160 Tryz.ntmps160 (by simp only [method_specs_simp]) ?_
 refine SW.seq (CW.sound ?_)
 simp only [method_specs_simp,seval,encGr]
 refine SW.seq (CW.sound ?_)
 simp only [method_specs_simp,seval,encGr]
 refine SW.seq (CW.sound ?_)
 simp only [method_specs_simp,seval,encGr]
 refine SW.while (A:=Nat) (fun i=>⟨pad 76 [.junk,.sl 1 ((takL g p).map encB),.ptr 0 0,.junk,.nil,.ar 1 0 (endsR g p i).length,.int .i64 i],[.box true (encGr g),.arr true 1 ((endsR g p i).map encI)],[]⟩) (fun i=>g.events.length - i) (fun i=>i ≤ g.events.length) 0 [0,1] (Zi _) ?_ ?_
 ·have h0 : endsR g p 0 = []:=rfl
  rw [h0]
  simp only [mvcgen_simp,method_specs_simp,seval,encGr]
 ·intro i hi
  have w1 : IntKind.i64.wrap ((i : Int) + 1) = ((i + 1 : Nat) : Int):=wadd1 i (by omega)
  have hel:=endsR_len g p i
  refine CW.sound ?_
  simp only [method_specs_simp,seval,encGr]
  refine gB_split (fun h1=>?_) (fun h1=>?_)
  ·simp only [decide_eq_true_eq,Za] at h1
   obtain ⟨e,he⟩ : ∃ e,g.events[i]? = some e:=⟨_,Zd h1⟩
   have hnx:=endsR_next (p:=p) he
   have hgt:=takL_get (p:=p) he
   simp only [method_specs_simp,seval,encGr,hgt,encB]
   refine ⟨by omega,by omega,?_⟩
   refine SW.while (A:=Nat) (fun k=>⟨pad 76 [.junk,.sl 1 ((takL g p).map encB),.ptr 0 0,.junk,.nil,.ar 1 0 (endsR g p i).length,.int .i64 i,.bool (endK g p e k),.int .i64 k],[.box true (encGr g),.arr true 1 ((endsR g p i).map encI)],[]⟩) (fun k=>g.events.length - k) (fun k=>k ≤ g.events.length) 0 [0,1] (Zi _) ?_ ?_
   ·have h0 : endK g p e 0 = p e:=by unfold endK; simp
    rw [h0]
    simp only [mvcgen_simp,method_specs_simp,seval,encGr]
   ·intro k hk
    have w2 : IntKind.i64.wrap ((k : Int) + 1) = ((k + 1 : Nat) : Int):=wadd1 k (by omega)
    refine CW.sound ?_
    simp only [method_specs_simp,seval,encGr]
    refine gB_split (fun h2=>?_) (fun h2=>?_)
    ·simp only [decide_eq_true_eq,Za] at h2
     obtain ⟨e',he'⟩ : ∃ e',g.events[k]? = some e':=⟨_,Zd h2⟩
     have hgt':=takL_get (p:=p) he'
     have hf4:=h.four e' (Zg he')
     refine SW.while (A:=Nat) (fun j=>⟨pad 76 [.junk,.sl 1 ((takL g p).map encB),.ptr 0 0,.junk,.nil,.ar 1 0 (endsR g p i).length,.int .i64 i,.bool (endJ g p e k e'.prev j),.int .i64 k,.int .i64 j],[.box true (encGr g),.arr true 1 ((endsR g p i).map encI)],[]⟩) (fun j=>e'.prev.length - j) (fun j=>j ≤ e'.prev.length ∧ (p e' = false → j = 0)) 0 [0,1] ⟨Zi _,fun _=>rfl⟩ ?_ ?_
     ·rw [endJ_zero]
      simp only [mvcgen_simp,method_specs_simp,seval,encGr]
     ·rintro j ⟨hj,hj0⟩
      have w3 : IntKind.i64.wrap ((j : Int) + 1) = ((j + 1 : Nat) : Int):=wadd1 j (by omega)
      refine CW.sound ?_
      simp only [method_specs_simp,seval,encGr,hgt',encB,htl]
      cases ho : p e' with
      | false =>
       have hz:=hj0 ho
       subst hz
       have hks:=endK_skip (e:=e) he' ho
       simp only [method_specs_simp,seval,encGr]
       refine ⟨by omega,by omega,?_⟩
       refine Again.mk (k + 1) [0,1] h2 (Zc h2 (Zb _)) ?_
       rw [endJ_zero,hks]
       simp only [mvcgen_simp,method_specs_simp,seval,encGr,w2]
      | true =>
       simp only [method_specs_simp,seval,encGr,he',encEv]
       refine ⟨by omega,by omega,by omega,by omega,?_⟩
       refine gB_split (fun h3=>?_) (fun h3=>?_)
       ·simp only [decide_eq_true_eq,Za] at h3
        obtain ⟨q,hp⟩ : ∃ q,e'.prev[j]? = some q:=⟨_,Zd h3⟩
        have hjn:=endJ_next (g:=g) (p:=p) (e:=e) (k:=k) hp
        refine ⟨by kernel_rfl,?_⟩
        cases hb : endJ g p e k e'.prev j with
        | false =>
         rw [hb,ZS] at hjn
         simp only [method_specs_simp,seval,encGr]
         refine Again.mk (j + 1) [0,1] ⟨h3,fun q=>by cases q⟩ (Zc h3 (Zb _)) ?_
         rw [hjn]
         simp only [mvcgen_simp,method_specs_simp,seval,encGr,w3]
        | true =>
         rw [hb,ZH] at hjn
         simp only [method_specs_simp,seval,encGr,hp,encI,he,he',encEv]
         refine ⟨by omega,by omega,by omega,by omega,by omega,by omega,?_⟩
         refine Again.mk (j + 1) [0,1] ⟨h3,fun q=>by cases q⟩ (Zc h3 (Zb _)) ?_
         rw [hjn]
         simp only [mvcgen_simp,method_specs_simp,seval,encGr,w3]
       ·have hj2 : j = e'.prev.length:=by simp only [decide_eq_false_iff_not,Ze,Za] at h3; omega
        have hkn:=endK_next (p:=p) (e:=e) he' ho
        refine Again.mk (k + 1) [0,1] h2 (Zc h2 (Zb _)) ?_
        rw [hj2,← hkn]
        simp only [mvcgen_simp,method_specs_simp,seval,encGr,w2]
    ·have hk2 : k = g.events.length:=by simp only [decide_eq_false_iff_not,Ze,Za] at h2; omega
     rw [hk2,endK_all]
     cases hb : endB g p e with
     | true =>
      rw [hb,if_pos rfl] at hnx
      have e1 : (endsR g p i).map encI ++ [[V.int .i64 e.id]] = (endsR g p (i + 1)).map encI:=by rw [hnx,Zu]; rfl
      have e2 : (endsR g p i).length + 1 = (endsR g p (i + 1)).length:=by rw [hnx,ZB]; rfl
      simp only [method_specs_simp,seval,encGr,he,encEv]
      refine ⟨by omega,by omega,by omega,by omega,?_⟩
      rw [e1,e2]
      refine Again.mk (i + 1) [0,3] h1 (Zc h1 (Zb _)) ?_
      simp only [mvcgen_simp,method_specs_simp,seval,encGr,w1]
     | false =>
      rw [hb,if_neg (by decide),Zz] at hnx
      simp only [method_specs_simp,seval,encGr]
      refine Again.mk (i + 1) [0,1] h1 (Zc h1 (Zb _)) ?_
      rw [hnx]
      simp only [mvcgen_simp,method_specs_simp,seval,encGr,w1]
  ·have hi2 : i = g.events.length:=by simp only [decide_eq_false_iff_not,Ze,Za] at h1; omega
   rw [hi2]
   refine CW.sound ?_
   simp only [method_specs_simp,seval,encGr]
end
theorem sts_ok {g : Gr} (h : GG g) {ids : List Int} (hi : ∀ id ∈ ids,Gm.hasId g.events id = true) : (∀ id ∈ ids,(lookD (hsG g).A id none).isSome = true) ∧ ∀ s ∈ stsA (hsG g).A ids,SG g s:=by
 refine ⟨fun id hid=>?_,fun s hs=>?_⟩
 ·rw [(hsG_in h (hi id hid)).2.1]; rfl
 ·obtain ⟨id,hid,rfl⟩:=ZI.1 hs
  rw [(hsG_in h (hi id hid)).2.1]
  exact (hsG_in h (hi id hid)).2.2
def curG (g : Gr) : List Ent:=resI g (DD g) (stsA (hsG g).A (endsG g (hsG g)))
theorem endsQ_has {g : Gr} (p : Ev → Bool) : ∀ id ∈ endsQ g p,Gm.hasId g.events id = true:=fun id hid=>by
 unfold endsQ endsR at hid
 obtain ⟨e,he,rfl⟩:=ZI.1 hid
 rw [Zr] at he
 exact has_mem (ZK.1 he).1
def curQ (g : Gr) (p : Ev → Bool) : List Ent:=resI g (DD g) (stsA (hsG g).A (endsQ g p))
theorem curQ_G {g : Gr} (h : GG g) : curQ g (okE (hsG g)) = curG g:=by unfold curQ curG endsQ; rw [endsR_all h]
section
variable {P : Program} [Is P]
theorem c_l06Current (g : Gr) (p : Ev → Bool) (h : GG g) : Con P 128 [.agg (encGr g),kS g (hsG g),.sl 1 ((takL g p).map encB)] (.sl 3 ((curQ g p).map encEnt)):=by
 have h60:=h.n
 have hel : (endsQ g p).length ≤ 60:=ZW (endsR_len g p g.events.length) h60
 have hhas:=endsQ_has (g:=g) p
 obtain ⟨h1,h2⟩:=sts_ok h hhas
 refine Con.ofS (n:=43) (rs:=[.tmp 6]) (Is.fn Tryz.func128) rfl (Is.call Tryz.call128) Tryz.results128 Tryz.ntmps128 (by simp only [method_specs_simp]) ?_
 refine SW.seq (CW.sound ?_)
 simp only [method_specs_simp,seval,encGr,kS]
 refine SW.seq (CW.sound ?_)
 simp only [method_specs_simp,seval,encGr,kS]
 refine clY.con (c_l06Ends g p h) (by simp only [method_specs_simp,encGr]) ?_
 obtain ⟨ids,hids⟩ : ∃ ids,ids = endsQ g p:=⟨_,rfl⟩
 have hcur : curQ g p = resI g (DD g) (stsA (hsG g).A ids):=by rw [hids]; rfl
 rw [← hids] at hel hhas h1 h2 ⊢
 simp only [method_specs_simp,seval,encGr,kS]
 refine SW.seq (CW.sound ?_)
 simp only [method_specs_simp,seval,encGr,kS]
 refine SW.seq (CW.sound ?_)
 simp only [method_specs_simp,seval,encGr,kS]
 refine SW.while (A:=Nat) (fun j=>⟨pad 43 [.junk,kS g (hsG g),.junk,.ptr 0 0,.junk,.junk,.nil,.sl 1 (ids.map encI),.ar 1 0 j,.int .i64 j],[.box true (encGr g),.arr true 1 ((stsA (hsG g).A (ids.take j)).map encSS)],[]⟩) (fun j=>ids.length - j) (fun j=>j ≤ ids.length) 0 [0,1] (Zi _) ?_ ?_
 ·have h0 : stsA (hsG g).A (ids.take 0) = []:=rfl
  rw [h0]
  simp only [mvcgen_simp,method_specs_simp,seval,encGr,kS]
 ·intro j hj
  have hjl : (stsA (hsG g).A (ids.take j)).length = j:=by rw [stsA_len,Zq]; omega
  have w2 : IntKind.i64.wrap ((j : Int) + 1) = ((j + 1 : Nat) : Int):=wadd1 j (by omega)
  refine CW.sound ?_
  simp only [method_specs_simp,seval,encGr,kS]
  refine gB_split (fun h3=>?_) (fun h3=>?_)
  ·simp only [decide_eq_true_eq,Za] at h3
   obtain ⟨q,hp⟩ : ∃ q,ids[j]? = some q:=⟨_,Zd h3⟩
   have hpm:=Zg hp
   obtain ⟨s,hsv⟩:=Yy.1 (h1 q hpm)
   have hph:=hhas q hpm
   obtain ⟨ep,hep,hepi⟩:=Gm.fid_get hph
   have hpl:=Gm.fid_lt hph
   have hpi : atI g.events q = ((Gm.fidE g.events q : Nat) : Int):=atI_yes hph
   obtain ⟨f,hf⟩ : ∃ f,f = Gm.fidE g.events q:=⟨_,rfl⟩
   rw [← hf] at hep hpl hpi
   have hget : (oB g (hsG g).A)[f]? = some [V.sl 3 (s.map encEnt)]:=by rw [oB_get _ hep,hepi,hsv]; rfl
   have hnS : stsA (hsG g).A (ids.take (j + 1)) = stsA (hsG g).A (ids.take j) ++ [s]:=by unfold stsA; rw [Zf,hp,Zh,Zu,YQ,hsv]; rfl
   have e1 : (stsA (hsG g).A (ids.take j)).map encSS ++ [[V.sl 3 (s.map encEnt)]] = (stsA (hsG g).A (ids.take (j + 1))).map encSS:=by rw [hnS,Zu]; rfl
   simp only [method_specs_simp,seval,encGr,kS,hp,encI,hjl]
   refine ⟨by kernel_rfl,by omega,by omega,?_⟩
   refine clY.con (c_l03At g.events q (by omega)) (by simp only [method_specs_simp,encGr,kS]) ?_
   simp only [method_specs_simp,seval,encGr,kS,hpi]
   simp only [method_specs_simp,seval,encGr,kS,hget]
   refine ⟨by omega,by omega,hjl,by omega,by omega,?_⟩
   rw [e1]
   refine Again.mk (j + 1) [0,3] h3 (Zc h3 (Zb _)) ?_
   simp only [mvcgen_simp,method_specs_simp,seval,encGr,kS,w2]
  ·have hj2 : j = ids.length:=by simp only [decide_eq_false_iff_not,Ze,Za] at h3; omega
   have htk : ids.take j = ids:=by rw [hj2]; exact Zr
   rw [htk] at hjl ⊢
   refine SW.freeze [1] ?_
   simp only [mvcgen_simp,method_specs_simp,seval,encGr,kS,convs_r8j,conv_junkj]
   have e2 : ZL j ((stsA (hsG g).A ids).map encSS) = (stsA (hsG g).A ids).map encSS:=Zt (by rw [Zl]; omega)
   rw [e2]
   refine CW.sound ?_
   simp only [method_specs_simp,seval,encGr,kS]
   refine ⟨by kernel_rfl,?_⟩
   refine clY.con (c_l06Resolve g (stsA (hsG g).A ids) h h2 (by omega)) (by simp only [method_specs_simp,encGr]) ?_
   rw [← hcur]
   simp only [method_specs_simp,seval,encGr,kS]
theorem c_l06CurG (g : Gr) (h : GG g) : Con P 128 [.agg (encGr g),kS g (hsG g),.sl 1 ((takL g (okE (hsG g))).map encB)] (.sl 3 ((curG g).map encEnt)):=by
 rw [← curQ_G h]
 exact c_l06Current g _ h
end
structure Sp where
 room : Int
 id : Int
 deriving DecidableEq
instance : Inhabited Sp:=⟨⟨0,0⟩⟩
structure Hb where
 rooms : List Gr
 stream : List Sp
def encSp (x : Sp) : List V:=[.int .i64 x.room,.int .i64 x.id]
def encHb (h : Hb) : List V:=[.sl 3 (h.rooms.map encGr),.sl 2 (h.stream.map encSp)]
theorem encSp_ref1 (ok : Nat → Prop) (x : Sp) : Refs ok (encSp x):=by simp only [encSp,Refs,Ref,and_self]
@[method_specs_simp] theorem encSp_refs (ok : Nat → Prop) (xs : List Sp) : Refss ok (xs.map encSp) = True:=eq_true (Refss_map fun a=>encSp_ref1 ok a)
@[method_specs_simp] theorem encSp_rens (ρ : Nat → Nat) (xs : List Sp) : renss ρ (xs.map encSp) = xs.map encSp:=renss_map fun a=>encSp_ref1 _ a
@[method_specs_simp] theorem encGr_refs (ok : Nat → Prop) (xs : List Gr) : Refss ok (xs.map encGr) = True:=eq_true (Refss_map fun a=>encGr_ref1 ok a)
@[method_specs_simp] theorem encGr_rens (ρ : Nat → Nat) (xs : List Gr) : renss ρ (xs.map encGr) = xs.map encGr:=renss_map fun a=>encGr_ref1 _ a
theorem encHb_ref1 (ok : Nat → Prop) (h : Hb) : Refs ok (encHb h):=by simp only [encHb,Refs,Ref,encSp_refs,encGr_refs,and_self]
@[method_specs_simp] theorem encHb_refs1 (ok : Nat → Prop) (h : Hb) : Refs ok (encHb h) = True:=eq_true (encHb_ref1 ok h)
def GrsOK (l : List Gr) : Prop:=l.length * 56 ≤ 2 ^ 47 ∧ ∀ g ∈ l,GrOK g
def HbOK (h : Hb) : Prop:=GrsOK h.rooms ∧ h.stream.length * 16 ≤ 2 ^ 47
theorem wG_nn1 (g : Gr) : 0 ≤ wG g:=by have:=wEs_nn g.events; have:=wEs_nn g.parked; unfold wG; omega
def wGs : List Gr → Int
 | []=>0
 | g :: l=>wG g + wGs l
theorem wGs_nn : ∀ l : List Gr,0 ≤ wGs l
 | []=>Yp _
 | g :: l=>by have:=wG_nn1 g; have:=wGs_nn l; unfold wGs; omega
def wH (h : Hb) : Int:=(h.rooms.length + wGs h.rooms) + h.stream.length
theorem wH_nn (h : Hb) : 0 ≤ wH h:=by have:=wGs_nn h.rooms; unfold wH; omega
def zGr : List V:=[.int .i64 0,.nil,.nil]
def zSp : List V:=[.int .i64 0,.int .i64 0]
@[method_specs_simp] theorem rowG_refs (ok : Nat → Prop) (xs : List Gr) (k : Nat) : Refss ok (rowZ encGr zGr xs k) = True:=eq_true (rowZ_refs (fun x=>encGr_ref1 ok x) (by simp [zGr,Refs,Ref]) xs k)
@[method_specs_simp] theorem rowG_rens (ρ : Nat → Nat) (xs : List Gr) (k : Nat) : renss ρ (rowZ encGr zGr xs k) = rowZ encGr zGr xs k:=rowZ_rens (fun x=>encGr_ref1 _ x) (by simp [zGr,Refs,Ref]) xs k
@[method_specs_simp] theorem rowS_refs (ok : Nat → Prop) (xs : List Sp) (k : Nat) : Refss ok (rowZ encSp zSp xs k) = True:=eq_true (rowZ_refs (fun x=>encSp_ref1 ok x) (by simp [zSp,Refs,Ref]) xs k)
@[method_specs_simp] theorem rowS_rens (ρ : Nat → Nat) (xs : List Sp) (k : Nat) : renss ρ (rowZ encSp zSp xs k) = rowZ encSp zSp xs k:=rowZ_rens (fun x=>encSp_ref1 _ x) (by simp [zSp,Refs,Ref]) xs k
section
variable {P : Program} [Is P]
theorem c_szGraphS (xs : List Gr) (l : Int) (h0 : 0 ≤ l) (h1 : l ≤ 1048576) (hx : GrsOK xs) : Con P 34 [.sl 3 (xs.map encGr),.int .i64 l] (.int .i64 (sb l (xs.length + wGs xs))):=by
 have hx1:=hx.1
 have w1 : IntKind.i64.wrap (l - xs.length) = l - xs.length:=wrap_id (by omega) (by omega)
 refine Con.of (n:=27) (rs:=[.tmp 4]) (Is.fn Tryz.func34) rfl (Is.call Tryz.call34) Tryz.results34 Tryz.ntmps34 trivial ?_
 simp only [method_specs_simp,seval]
 rw [w1]
 refine gB_split (fun h=>?_) (fun h=>?_)
 ·simp only [decide_eq_true_eq] at h; rw [sb_neg h (wGs_nn xs)]
 ·simp only [decide_eq_false_iff_not,Ze] at h
  refine SW.while (A:=Nat × Int) (fun a=>⟨pad 27 [.sl 3 (xs.map encGr),.int .i64 a.2,.junk,.junk,.int .i64 0,.int .i64 a.1],[],[]⟩) (fun a=>xs.length - a.1)
   (fun a=>a.1 ≤ xs.length ∧ 0 ≤ a.2 ∧ a.2 ≤ 1048576 ∧ sb l (xs.length + wGs xs) = sb a.2 (wGs (xs.drop a.1))) (0,l - xs.length) [] ⟨Zi _,by simp only; omega,by simp only; omega,?_⟩ ?_ ?_
  ·simp only [YP]; rw [sb_sb (by omega) (wGs_nn xs)]
  ·simp only [mvcgen_simp,method_specs_simp,seval]
  ·rintro ⟨k,r⟩ ⟨hk,hr0,hr1,hr⟩
   simp only at hk hr0 hr1 hr
   rw [hr]
   refine CW.sound ?_
   simp only [method_specs_simp,seval]
   refine gB_split (fun h=>?_) (fun h=>?_)
   ·simp only [decide_eq_true_eq,Za] at h
    have hxk : xs[k]? = some xs[k]:=Zd h
    have hOK:=hx.2 _ (YB h)
    generalize xs[k] = x at hxk hOK
    simp only [ZC,hxk,method_specs_simp]
    refine ⟨by omega,by omega,?_⟩
    refine clY.con (c_szGraph x r hr0 hr1 hOK) (by simp only [method_specs_simp,encGr]) ?_
    simp only [method_specs_simp,seval]
    rw [drop_cons hxk,wGs]
    have hn:=wGs_nn (xs.drop (k + 1))
    have hw:=wG_nn1 x
    refine gB_split (fun h'=>?_) (fun h'=>?_)
    ·simp only [decide_eq_true_eq] at h'
     have h2 : r - wG x < 0:=by unfold sb at h'; split at h' <;> omega
     rw [sb_neg h2 hn]
    ·simp only [decide_eq_false_iff_not,Ze] at h'
     have h2 : 0 ≤ r - wG x:=by unfold sb at h'; split at h' <;> omega
     rw [wrap_id (by omega) (by omega),sb_ge h2]
     refine Again.mk (k + 1,r - wG x) [] ⟨h,h2,by simp only; omega,?_⟩ (Zc h (Zb _)) ?_
     ·exact (sb_sb h2 hn).symm
     ·simp only [method_specs_simp,seval]
   ·simp only [decide_eq_false_iff_not,Ze,Za] at h
    rw [List.drop_eq_nil_of_le (by omega),wGs,sb_ge (by omega)]
    simp
theorem c_szSpotS (xs : List Sp) (l : Int) (h0 : 0 ≤ l) (h1 : l ≤ 1048576) (hx : xs.length < 2 ^ 62) : Con P 35 [.sl 2 (xs.map encSp),.int .i64 l] (.int .i64 (sb l xs.length)):=by
 refine Con.of (n:=12) (rs:=[.tmp 4]) (Is.fn Tryz.func35) rfl (Is.call Tryz.call35) Tryz.results35 Tryz.ntmps35 trivial ?_
 simp only [method_specs_simp,seval]
 rw [wrap_id (by omega) (by omega)]
 refine gB_split (fun h=>?_) (fun h=>?_)
 ·simp only [decide_eq_true_eq] at h; rw [sb_lt h]
 ·simp only [decide_eq_false_iff_not,Ze] at h
  rw [sb_ge (by omega)]
theorem c_szHub (h : Hb) (l : Int) (h0 : 0 ≤ l) (h1 : l ≤ 1048576) (hh : HbOK h) : Con P 9 [.agg (encHb h),.int .i64 l] (.int .i64 (sb l (wH h))):=by
 have hh2:=hh.2
 have n1:=wGs_nn h.rooms
 refine Con.of (n:=18) (rs:=[.tmp 4]) (Is.fn Tryz.func9) rfl (Is.call Tryz.call9) Tryz.results9 Tryz.ntmps9 trivial ?_
 simp only [method_specs_simp,seval]
 simp only [method_specs_simp,seval,encHb]
 refine clY.con (c_szGraphS h.rooms l h0 h1 hh.1) (by simp only [method_specs_simp]) ?_
 simp only [method_specs_simp,seval]
 refine gB_split (fun h'=>?_) (fun h'=>?_)
 ·simp only [decide_eq_true_eq] at h'
  have h2 : l - (h.rooms.length + wGs h.rooms) < 0:=by unfold sb at h'; split at h' <;> omega
  rw [wH,sb_neg h2 (by omega)]
 ·simp only [decide_eq_false_iff_not,Ze] at h'
  have h2 : 0 ≤ l - (h.rooms.length + wGs h.rooms):=by unfold sb at h'; split at h' <;> omega
  rw [sb_ge h2]
  refine clY.con (c_szSpotS h.stream (l - (h.rooms.length + wGs h.rooms)) h2 (by omega) (by omega)) (by simp only [method_specs_simp]) ?_
  simp only [method_specs_simp,seval]
  rw [sb_sb h2 (by omega),← wH]
  refine gB_split (fun h=>?_) (fun h=>?_)
  ·simp only [decide_eq_true_eq] at h
   have : sb l (wH ‹Hb›) = -1:=by unfold sb at h ⊢; split at h <;> simp_all
   rw [this]
  ·trivial
theorem c_toGraphS (xs : List Gr) (hx : GrsOK xs) : Con P 38 [.sl 3 (xs.map encGr)] (.sl 3 (xs.map encGr)):=by
 have hx1:=hx.1
 refine Con.of (n:=23) (rs:=[.tmp 2]) (Is.fn Tryz.func38) rfl (Is.call Tryz.call38) Tryz.results38 Tryz.ntmps38 (by simp only [method_specs_simp]) ?_
 simp only [method_specs_simp,seval]
 refine ⟨by omega,by omega,by omega,?_⟩
 refine SW.while (A:=Nat) (fun k=>⟨pad 23 [.sl 3 (xs.map encGr),.junk,.nil,.ar 0 0 xs.length,.int .i64 k],[.arr true 3 (rowZ encGr zGr xs k)],[]⟩) (fun k=>xs.length - k) (fun k=>k ≤ xs.length) 0 [0] (Zi _) ?_ ?_
 ·have ez : Zs xs.length [V.int .i64 0,.nil,.nil] = rowZ encGr zGr xs 0:=(rowZ_zero _ _ _).symm
  rw [ez]
  simp only [mvcgen_simp,method_specs_simp,seval]
 ·intro k hk
  refine CW.sound ?_
  simp only [method_specs_simp,seval]
  refine gB_split (fun h=>?_) (fun h=>?_)
  ·simp only [decide_eq_true_eq,Za] at h
   have hxk : xs[k]? = some xs[k]:=Zd h
   have hOK:=hx.2 _ (YB h)
   generalize xs[k] = x at hxk hOK
   simp only [ZC,hxk,method_specs_simp,seval]
   refine ⟨by omega,by omega,?_⟩
   refine clY.con (c_toGraph x hOK) (by simp only [method_specs_simp,encGr]) ?_
   simp only [method_specs_simp,seval]
   rw [rowZ_get h]
   refine ⟨by omega,by omega,by rw [rowZ_length hk]; exact h,by simp [encGr,oneV],rfl,by simp [encGr],?_⟩
   rw [wrap_id (by omega) (by omega),show encGr x ++ ZP (encGr x).length zGr = encGr x from rfl,rowZ_set hxk]
   refine Again.mk (k + 1) [0] h (Zc h (Zb _)) ?_
   simp only [mvcgen_simp,method_specs_simp,seval]
  ·simp only [decide_eq_false_iff_not,Ze,Za] at h
   have hi : k = xs.length:=by omega
   subst hi
   rw [rowZ_all]
   simp only [method_specs_simp,seval]
theorem c_toSpot (x : Sp) : Con P 74 [.agg (encSp x)] (.agg (encSp x)):=by
 refine Con.of (n:=11) (rs:=[.cell 2 117]) (Is.fn Tryz.func74) rfl (Is.call Tryz.call74) Tryz.results74 Tryz.ntmps74 (encSp_ref1 _ x) ?_
 simp only [method_specs_simp,seval]
 simp only [method_specs_simp,seval,encSp]
 try rfl
theorem c_toSpotS (xs : List Sp) (hx1 : xs.length * 16 ≤ 2 ^ 47) : Con P 39 [.sl 2 (xs.map encSp)] (.sl 2 (xs.map encSp)):=by
 refine Con.of (n:=23) (rs:=[.tmp 2]) (Is.fn Tryz.func39) rfl (Is.call Tryz.call39) Tryz.results39 Tryz.ntmps39 (by simp only [method_specs_simp]) ?_
 simp only [method_specs_simp,seval]
 refine ⟨by omega,by omega,by omega,?_⟩
 refine SW.while (A:=Nat) (fun k=>⟨pad 23 [.sl 2 (xs.map encSp),.junk,.nil,.ar 0 0 xs.length,.int .i64 k],[.arr true 2 (rowZ encSp zSp xs k)],[]⟩) (fun k=>xs.length - k) (fun k=>k ≤ xs.length) 0 [0] (Zi _) ?_ ?_
 ·have ez : Zs xs.length [V.int .i64 0,.int .i64 0] = rowZ encSp zSp xs 0:=(rowZ_zero _ _ _).symm
  rw [ez]
  simp only [mvcgen_simp,method_specs_simp,seval]
 ·intro k hk
  refine CW.sound ?_
  simp only [method_specs_simp,seval]
  refine gB_split (fun h=>?_) (fun h=>?_)
  ·simp only [decide_eq_true_eq,Za] at h
   have hxk : xs[k]? = some xs[k]:=Zd h
   generalize xs[k] = x at hxk
   simp only [ZC,hxk,method_specs_simp,seval]
   refine ⟨by omega,by omega,by simp [encSp],?_⟩
   rw [show ZL 2 (encSp x) = encSp x from rfl]
   refine clY.con (c_toSpot x) (by simp only [method_specs_simp,encSp]) ?_
   simp only [method_specs_simp,seval]
   rw [rowZ_get h]
   refine ⟨by omega,by omega,by rw [rowZ_length hk]; exact h,by simp [encSp,oneV],rfl,by simp [encSp],?_⟩
   rw [wrap_id (by omega) (by omega),show encSp x ++ ZP (encSp x).length zSp = encSp x from rfl,rowZ_set hxk]
   refine Again.mk (k + 1) [0] h (Zc h (Zb _)) ?_
   simp only [mvcgen_simp,method_specs_simp,seval]
  ·simp only [decide_eq_false_iff_not,Ze,Za] at h
   have hi : k = xs.length:=by omega
   subst hi
   rw [rowZ_all]
   simp only [method_specs_simp,seval]
theorem c_toHub (h : Hb) (hh : HbOK h) : Con P 11 [.agg (encHb h)] (.agg (encHb h)):=by
 refine Con.of (n:=13) (rs:=[.cell 2 31]) (Is.fn Tryz.func11) rfl (Is.call Tryz.call11) Tryz.results11 Tryz.ntmps11 (encHb_ref1 _ h) ?_
 simp only [method_specs_simp,seval]
 simp only [method_specs_simp,seval,encHb]
 refine clY.con (c_toGraphS h.rooms hh.1) (by simp only [method_specs_simp]) ?_
 simp only [method_specs_simp,seval]
 refine clY.con (c_toSpotS h.stream hh.2) (by simp only [method_specs_simp]) ?_
 simp only [method_specs_simp,seval]
 rfl
theorem c_eqGraphS (xs : List Gr) (hx : GrsOK xs) : Con P 42 [.sl 3 (xs.map encGr),.sl 3 (xs.map encGr)] (.bool true):=by
 have e5 : ∀ a : Int,(a != a) = false:=fun a=>by simp
 have hx1:=hx.1
 refine Con.of (n:=27) (rs:=[.tmp 4]) (Is.fn Tryz.func42) rfl (Is.call Tryz.call42) Tryz.results42 Tryz.ntmps42 trivial ?_
 simp only [method_specs_simp,seval]
 simp only [method_specs_simp,seval,e5]
 refine SW.while (A:=Nat) (fun k=>⟨pad 27 [.sl 3 (xs.map encGr),.sl 3 (xs.map encGr),.junk,.junk,.bool false,.int .i64 k],[],[]⟩) (fun k=>xs.length - k) (fun k=>k ≤ xs.length) 0 [] (Zi _) ?_ ?_
 ·simp only [mvcgen_simp,method_specs_simp,seval]
 ·intro k hk
  refine CW.sound ?_
  simp only [method_specs_simp,seval]
  refine gB_split (fun h=>?_) (fun h=>?_)
  ·simp only [decide_eq_true_eq,Za] at h
   have hxk : xs[k]? = some xs[k]:=Zd h
   have hOK:=hx.2 _ (YB h)
   generalize xs[k] = x at hxk hOK
   simp only [ZC,hxk,method_specs_simp,seval]
   refine ⟨by kernel_rfl,by omega,by omega,by omega,by omega,?_⟩
   refine clY.con (c_eqGraph x hOK) (by simp only [method_specs_simp,encGr]) ?_
   simp only [method_specs_simp,seval]
   rw [wrap_id (by omega) (by omega)]
   refine Again.mk (k + 1) [] h (Zc h (Zb _)) ?_
   simp only [mvcgen_simp,method_specs_simp,seval]
  ·trivial
theorem c_eqSpot (x : Sp) : Con P 84 [.agg (encSp x),.agg (encSp x)] (.bool true):=by
 have e5 : ∀ a : Int,(a != a) = false:=fun a=>by simp
 refine Con.of (n:=15) (rs:=[.tmp 4]) (Is.fn Tryz.func84) rfl (Is.call Tryz.call84) Tryz.results84 Tryz.ntmps84 trivial ?_
 simp only [method_specs_simp,seval]
 simp only [method_specs_simp,seval,encSp,e5]
theorem c_eqSpotS (xs : List Sp) (hx1 : xs.length * 16 ≤ 2 ^ 47) : Con P 43 [.sl 2 (xs.map encSp),.sl 2 (xs.map encSp)] (.bool true):=by
 have e5 : ∀ a : Int,(a != a) = false:=fun a=>by simp
 refine Con.of (n:=27) (rs:=[.tmp 4]) (Is.fn Tryz.func43) rfl (Is.call Tryz.call43) Tryz.results43 Tryz.ntmps43 trivial ?_
 simp only [method_specs_simp,seval]
 simp only [method_specs_simp,seval,e5]
 refine SW.while (A:=Nat) (fun k=>⟨pad 27 [.sl 2 (xs.map encSp),.sl 2 (xs.map encSp),.junk,.junk,.bool false,.int .i64 k],[],[]⟩) (fun k=>xs.length - k) (fun k=>k ≤ xs.length) 0 [] (Zi _) ?_ ?_
 ·simp only [mvcgen_simp,method_specs_simp,seval]
 ·intro k hk
  refine CW.sound ?_
  simp only [method_specs_simp,seval]
  refine gB_split (fun h=>?_) (fun h=>?_)
  ·simp only [decide_eq_true_eq,Za] at h
   have hxk : xs[k]? = some xs[k]:=Zd h
   generalize xs[k] = x at hxk
   simp only [ZC,hxk,method_specs_simp,seval]
   refine ⟨by kernel_rfl,by omega,by omega,by simp [encSp],by omega,by omega,by simp [encSp],?_⟩
   rw [show ZL 2 (encSp x) = encSp x from rfl]
   refine clY.con (c_eqSpot x) (by simp only [method_specs_simp,encSp]) ?_
   simp only [method_specs_simp,seval]
   rw [wrap_id (by omega) (by omega)]
   refine Again.mk (k + 1) [] h (Zc h (Zb _)) ?_
   simp only [mvcgen_simp,method_specs_simp,seval]
  ·trivial
theorem c_eqHub (h : Hb) (hh : HbOK h) : Con P 13 [.agg (encHb h),.agg (encHb h)] (.bool true):=by
 refine Con.of (n:=17) (rs:=[.tmp 4]) (Is.fn Tryz.func13) rfl (Is.call Tryz.call13) Tryz.results13 Tryz.ntmps13 trivial ?_
 simp only [method_specs_simp,seval]
 simp only [method_specs_simp,seval,encHb]
 refine clY.con (c_eqGraphS h.rooms hh.1) (by simp only [method_specs_simp]) ?_
 simp only [method_specs_simp,seval]
 refine clY.con (c_eqSpotS h.stream hh.2) (by simp only [method_specs_simp]) ?_
 simp only [method_specs_simp,seval]
end
def kSp (l : List Sp) : List V:=l.map fun x=>V.agg (encSp x)
def vSp (l : List Sp) : List V:=l.map fun _=>V.bool true
theorem kSp_ref (ok : Nat → Prop) (l : List Sp) : Refs ok (kSp l):=by
 induction l with
 | nil=>trivial
 | cons x l ih=>exact ⟨encSp_ref1 ok x,ih⟩
theorem vSp_ref (ok : Nat → Prop) (l : List Sp) : Refs ok (vSp l):=by
 induction l with
 | nil=>trivial
 | cons x l ih=>exact ⟨trivial,ih⟩
@[method_specs_simp] theorem kSp_refs (ok : Nat → Prop) (l : List Sp) : Refs ok (kSp l) = True:=eq_true (kSp_ref ok l)
@[method_specs_simp] theorem vSp_refs (ok : Nat → Prop) (l : List Sp) : Refs ok (vSp l) = True:=eq_true (vSp_ref ok l)
@[method_specs_simp] theorem kSp_rens (ρ : Nat → Nat) (l : List Sp) : rens ρ (kSp l) = kSp l:=rens_pure _ (kSp_ref _ l)
@[method_specs_simp] theorem vSp_rens (ρ : Nat → Nat) (l : List Sp) : rens ρ (vSp l) = vSp l:=rens_pure _ (vSp_ref _ l)
theorem findA_sp (k : Sp) : ∀ l : List Sp,∃ r,findA [.int,.int] (encSp k) (l.map encSp) = some r ∧ r.isSome = l.contains k ∧ ∀ j,r = some j → l[j]? = some k
 | []=>⟨none,rfl,rfl,fun _ h=>by cases h⟩
 | x :: l=>by
   obtain ⟨r,h1,h2,h3⟩:=findA_sp k l
   have e : eqV [.int,.int] (encSp k) (encSp x) = some (k == x):=by
    obtain ⟨a,b⟩:=k
    obtain ⟨c,d⟩:=x
    simp only [eqV,encSp,if_true,Yo,Bool.and_true,Option.some.injEq]
    rw [ZE]
    simp
   simp only [ZO,findA,e,List.contains_cons]
   cases hb : k == x with
   | true=>exact ⟨_,rfl,rfl,fun j h=>by cases h; simp [eq_of_beq hb]⟩
   | false =>
    refine ⟨r.map (· + 1),by simp only [h1,Yo],by simp [h2],fun j h=>?_⟩
    obtain ⟨j',h4,rfl⟩:=Option.map_eq_some_iff.1 h
    simpa using h3 j' h4
theorem eqV_sp (k : Sp) : (eqV [.int,.int] (encSp k) (encSp k)).isSome = true:=by simp [eqV,encSp]
section
variable {P : Program} {e : TypeId} {m : List Ob} {x : V}
theorem lkY.spots (l : List Sp) {k : Sp} {K : V → Prop} (h1 : mpAt m x = some (kSp l,vSp l)) (h2 : mpA P e = some ([.int,.int],.bool false)) (h : K (.bool (l.contains k))) : @lkY P e m x (.agg (encSp k)) false ⟨K⟩:=by
 obtain ⟨r,g1,g2,g3⟩:=findA_sp k l
 refine ⟨_,_,.bool false,r,h1,.inr ⟨_,_,l.map encSp,h2,rfl,by simp [kSp],g1,eqV_sp k⟩,fun j hj=>?_,?_⟩
 ·have:=(Zp.1 (g3 j hj)).1
  simpa [vSp] using this
 ·rw [← g2] at h
  cases r with
  | none=>exact h
  | some j =>
   have:=(Zp.1 (g3 j rfl)).1
   have hv : (vSp l).getD j .junk = .bool true:=by simp [vSp,ZG,Zd this]
   simp only [Yo,YW,hv]
   exact h
theorem muY.spots (l : List Sp) {k : Sp} {q : Nat} {K : List Ob → Prop} (hn : l.contains k = false) (h1 : m[q]? = some (.mp true (kSp l) (vSp l))) (h2 : mpA P e = some ([.int,.int],.bool false)) (h : K (m.set q (.mp true (kSp (l ++ [k])) (vSp (l ++ [k]))))) : @muY P e m (.map q) (.agg (encSp k)) (.bool true) ⟨K⟩:=by
 obtain ⟨r,g1,g2,g3⟩:=findA_sp k l
 have hr : r = none:=by rw [hn] at g2; cases r <;> simp_all
 subst hr
 refine ⟨q,_,_,.bool false,none,rfl,h1,.inr ⟨_,_,l.map encSp,h2,rfl,by simp [kSp],g1,eqV_sp k⟩,fun j hj=>(nomatch hj),?_⟩
 have e1 : kSp l ++ [V.agg (encSp k)] = kSp (l ++ [k]):=by simp [kSp]
 have e2 : vSp l ++ [V.bool true] = vSp (l ++ [k]):=by simp [vSp]
 rw [e1,e2]
 exact h
end
theorem bxX_mapq {m : List Ob} {q : Nat} {lv : Bool} {ks vs : List V} {K : List V → Prop} (h : m[q]? = some (.mp lv ks vs)) (k : K [.map q]) : bxX m (.map q) K:=by
 have e : oneV m (.map q) = true:=by simp only [oneV,h]
 show Go.Pm.oB (nrm (if oneV m (.map q) = true then some [.map q] else none)) K
 rw [if_pos e]
 exact k
def okRm (i : Nat) (g : Gr) : Bool:=Gm.grRight g && decide (g.room = (i : Int) + 1)
def rmOK (l : List Gr) : Bool:=l.zipIdx.all fun p=>okRm p.2 p.1
theorem rmOK_at {l : List Gr} : rmOK l = true ↔ ∀ i g,l[i]? = some g → okRm i g = true:=by
 unfold rmOK
 rw [Zn]
 constructor
 ·intro h i g hg
  exact h (g,i) (Yi.2 hg)
 ·rintro h ⟨g,i⟩ hp
  exact h i g (Yi.1 hp)
def gAt (l : List Gr) (r : Int) : Gr:=l.getD (r - 1).toNat ⟨0,[],[]⟩
def okI (g : Gr) (id : Int) : Bool:=lookD (hsG g).R id 0 == 0
def okSp (l : List Gr) (met : List Sp) (x : Sp) : Bool :=
 Gm.isB x.room 1 3 && (!met.contains x && ((atE (gAt l x.room).events x.id).isSome && (okI (gAt l x.room) x.id &&
  !((atE (gAt l x.room).events x.id).getD zE).prev.any fun id=>okI (gAt l x.room) id && !met.contains ⟨x.room,id⟩)))
def stOK (l : List Gr) (s : List Sp) : Bool:=s.zipIdx.all fun p=>okSp l (s.take p.2) p.1
theorem stOK_at {l : List Gr} {s : List Sp} : stOK l s = true ↔ ∀ i x,s[i]? = some x → okSp l (s.take i) x = true:=by
 unfold stOK
 rw [Zn]
 constructor
 ·intro h i g hg
  exact h (g,i) (Yi.2 hg)
 ·rintro h ⟨g,i⟩ hp
  exact h i g (Yi.1 hp)
def lefts : List Gr → Nat
 | []=>0
 | g :: l=>(accI g (hsG g)).length + lefts l
theorem lefts_app : ∀ l l' : List Gr,lefts (l ++ l') = lefts l + lefts l'
 | [],l'=>by simp [lefts]
 | g :: l,l'=>by simp only [ZM,lefts,lefts_app l l']; omega
def hRow1 (g : Gr) : List V:=[hF g (hsG g)]
def sRow (h : Hb) : List V:=[.sl 3 (h.rooms.map encGr),.sl 2 (h.stream.map encSp),.sl 1 (h.rooms.map hRow1)]
def srvV (h : Hb) : V:=.fptr (sRow h) 0
theorem hRow1_ref (ok : Nat → Prop) (g : Gr) : Refs ok (hRow1 g):=⟨hF_ref ok g _,trivial⟩
@[method_specs_simp] theorem hRow1_refs (ok : Nat → Prop) (l : List Gr) : Refss ok (l.map hRow1) = True:=eq_true (Refss_map fun g=>hRow1_ref ok g)
@[method_specs_simp] theorem hRow1_rens (ρ : Nat → Nat) (l : List Gr) : renss ρ (l.map hRow1) = l.map hRow1:=renss_map fun g=>hRow1_ref _ g
theorem srvV_ref (ok : Nat → Prop) (h : Hb) : Ref ok (srvV h):=by
 show Refs ok (sRow h)
 simp only [sRow,Refs,Ref,encGr_refs,encSp_refs,hRow1_refs,and_self]
@[method_specs_simp] theorem wk1_srv (ks : List Nat) (h : Hb) : wk1 ks (srvV h) (srvV h) = True:=eq_true (.inr ⟨srvV_ref _ h,(V.ren_pure _ (srvV_ref _ h)).symm⟩)
def nsR (h : Hb) : V:=if decide (h.rooms.length = 3) && (decide (h.stream.length ≤ 120) && (rmOK h.rooms && stOK h.rooms h.stream)) then .tup [srvV h,.bool (lefts h.rooms == h.stream.length)] else .tup [.junk,.bool false]
theorem nsR_ref (ok : Nat → Prop) (h : Hb) : Ref ok (nsR h):=by
 unfold nsR
 split
 ·exact ⟨srvV_ref ok h,trivial,trivial⟩
 ·exact ⟨trivial,trivial,trivial⟩
section
variable {P : Program} [Is P]
theorem c_ns1 (g : Gr) (x : Sp) (met : List Sp) (id : Int) : Con P 81 [.int .i64 id,.fptr [hF g (hsG g)] 0,.fptr [.fmap (kSp met) (vSp met)] 0,.fptr (encSp x) 0] (.bool (okI g id && !met.contains ⟨x.room,id⟩)):=by
 refine Con.of (n:=22) (rs:=[.tmp 5]) (Is.fn Tryz.func81) rfl (Is.call Tryz.call81) Tryz.results81 Tryz.ntmps81 trivial ?_
 simp only [method_specs_simp,seval,hF,encSp]
 refine lkY.ints (V.int .i64) (hsG g).R 0 rfl (by simp only [method_specs_simp]) ?_
 unfold okI
 cases h : lookD (hsG g).R id 0 == 0 with
 | false =>
  simp only [method_specs_simp,seval,hF,encSp,h]
  rw [ZS]
 | true =>
  simp only [method_specs_simp,seval,hF,encSp,h]
  refine lkY.spots (k:=⟨x.room,id⟩) met (by rfl) (by simp only [method_specs_simp]) ?_
  simp only [method_specs_simp,seval,hF,encSp]
theorem c_sroom (gs : List Gr) (r : Int) (g : Gr) (a b : V) (h1 : 1 ≤ r) (h2 : gs[(r - 1).toNat]? = some g) (hl : gs.length < 2 ^ 40) : Con P 78 [.fptr [a,b,.sl 1 (gs.map hRow1)] 0,.int .i64 r] (hF g (hsG g)):=by
 have hlt:=(Zp.1 h2).1
 have w1 : IntKind.i64.wrap (r - 1) = r - 1:=wrap_id (by omega) (by omega)
 refine Con.of (n:=13) (rs:=[.tmp 4]) (Is.fn Tryz.func78) rfl (Is.call Tryz.call78) Tryz.results78 Tryz.ntmps78 (hF_ref _ g _) ?_
 simp only [method_specs_simp,seval]
 rw [w1,h2]
 refine ⟨by omega,by omega,?_⟩
 simp only [method_specs_simp,seval,hRow1]
 exact ⟨hF_ref _ _ _,rfl⟩
def sHv : Nat → V
 | 0=>.nil
 | i + 1=>.ar 2 0 (i + 1)
def sHo (l : List Gr) : Nat → List Ob
 | 0=>[]
 | i + 1=>[.arr true 1 ((l.take (i + 1)).map hRow1)]
theorem c_newServer (h : Hb) (hh : HbOK h) : Con P 40 [.agg (encHb h)] (nsR h):=by
 have hs2:=hh.2
 have hr1:=hh.1.1
 refine Con.ofS (n:=126) (rs:=[.tmp 2,.tmp 3]) (Is.fn Tryz.func40) rfl (Is.call Tryz.call40) Tryz.results40 Tryz.ntmps40 (nsR_ref _ h) ?_
 refine SW.seq (CW.sound ?_)
 simp only [method_specs_simp,seval,encHb,encGr]
 by_cases h3 : h.rooms.length = 3
 ·by_cases h120 : h.stream.length ≤ 120
  ·have e1 : ((h.rooms.length : Int) != 3) = false:=by rw [h3]; rfl
   have e2 : decide ((h.stream.length : Int) > 120) = false:=by simp; omega
   refine SW.seq (CW.sound ?_)
   simp only [method_specs_simp,seval,encHb,encGr,e1,e2]
   refine SW.seq (CW.sound ?_)
   simp only [method_specs_simp,seval,encHb,encGr]
   refine SW.seq (CW.sound ?_)
   simp only [method_specs_simp,seval,encHb,encGr]
   have hbad : ∀ (j : Nat) (g : Gr),h.rooms[j]? = some g → okRm j g = false → nsR h = .tup [.junk,.bool false]:=fun j g hg hn=>by
    unfold nsR
    rw [if_neg]
    intro hc
    simp only [Zm] at hc
    rw [rmOK_at.1 hc.2.2.1 j g hg] at hn
    cases hn
   refine SW.while (A:=Nat) (fun i=>⟨pad 126 [.junk,.ptr 0 0,.junk,.bool false,.ptr 1 0,.int .i64 (lefts (h.rooms.take i)),.junk,.junk,.junk,.junk,.junk,.junk,.junk,.junk,.junk,.junk,.junk,.junk,.junk,.junk,.junk,.junk,.junk,.junk,.junk,.junk,.junk,.junk,.sl 3 (h.rooms.map encGr),.int .i64 h.rooms.length,.int .i64 i],[.box true (encHb h),.box true [.sl 3 (h.rooms.map encGr),.sl 2 (h.stream.map encSp),sHv i]] ++ sHo h.rooms i,[]⟩) (fun i=>h.rooms.length - i) (fun i=>i ≤ h.rooms.length ∧ lefts (h.rooms.take i) ≤ 60 * i ∧ ∀ j g,j < i → h.rooms[j]? = some g → okRm j g = true) 0 [0,1] ⟨Zi _,Zj _,fun j g hj=>absurd hj (YC _)⟩ ?_ ?_
   ·simp only [mvcgen_simp,method_specs_simp,seval,encHb,encGr,sHv,sHo]
    rfl
   ·rintro i ⟨hi,hlf,hok⟩
    refine SW.seq (CW.sound ?_)
    simp only [method_specs_simp,seval,encHb,encGr]
    refine SW.seq (CW.sound ?_)
    simp only [method_specs_simp,seval,encHb,encGr]
    refine gB_split (fun h1=>?_) (fun h1=>?_)
    ·simp only [decide_eq_true_eq,Za] at h1
     obtain ⟨g,hg⟩ : ∃ g,h.rooms[i]? = some g:=⟨_,Zd h1⟩
     have hgOK:=hh.1.2 g (Zg hg)
     refine SW.seq (SW.block ?_)
     refine SW.seq (CW.sound ?_)
     have w1 : IntKind.i64.wrap ((i : Int) + 1) = ((i + 1 : Nat) : Int):=wadd1 i (by omega)
     rcases Wf i with hi0 | hi0
     ·have z1 : sHv i = .nil:=by rw [hi0]; rfl
      have z2 : sHo h.rooms i = []:=by rw [hi0]; rfl
      simp only [method_specs_simp,seval,encHb,encGr,hg,z1,z2]
      refine ⟨by omega,by omega,?_⟩
      refine SW.seq (CW.sound ?_)
      simp only [method_specs_simp,seval,encHb,encGr]
      refine clY.con (c_GraphRight g hgOK) (by simp only [method_specs_simp,encGr]) ?_
      cases hr : Gm.grRight g with
      | false =>
       simp only [method_specs_simp,seval,encHb,encGr]
       exact ⟨trivial,(hbad i g hg (by unfold okRm; rw [hr]; rfl)).symm⟩
      | true =>
       have h2 : GG g:=⟨hgOK,hr⟩
       simp only [method_specs_simp,seval,encHb,encGr,w1]
       by_cases hb : g.room = (i : Int) + 1
       ·have hb2 : (g.room != (i : Int) + 1) = false:=by simp; omega
        simp only [method_specs_simp,seval,encHb,encGr,hb2]
        refine SW.seq (CW.sound ?_)
        simp only [method_specs_simp,seval,encHb,encGr]
        refine ⟨by kernel_rfl,?_⟩
        refine clY.con (c_newHistory g h2) (by simp only [method_specs_simp,encGr]) ?_
        obtain ⟨hc,hhc⟩ : ∃ cs,hF g (hsG g) = .fptr cs 0:=⟨_,rfl⟩
        rw [show hF g (hsN g (depM g.events (Gm.depthsE g.events) g.events.length) (evsO g)) = hF g (hsG g) from rfl,hhc]
        have hcr : Ref (fun _=>False) (.fptr hc 0):=by rw [← hhc]; exact hF_ref _ _ _
        have hacc : Con P 77 [.fptr hc 0] (.sl 1 ((accI g (hsG g)).map encI)):=by rw [← hhc]; exact c_accepted g (hsG g) h2
        have hal : (accI g (hsG g)).length ≤ 60:=by
         have:=Yn (okE (hsG g)) g.events
         have:=h2.n
         unfold accI
         rw [Zl]
         omega
        have hnl : lefts (h.rooms.take (i + 1)) = lefts (h.rooms.take i) + (accI g (hsG g)).length:=by
         rw [Zf,hg,Zh,lefts_app]; rfl
        have hna : (h.rooms.take i).map hRow1 ++ [[V.fptr hc 0]] = (h.rooms.take (i + 1)).map hRow1:=by
         rw [Zf,hg,Zh,Zu,← hhc]; rfl
        have hil : ((h.rooms.take i).map hRow1).length = i:=by rw [Zl,Zq]; omega
        simp only [method_specs_simp,seval,encHb,encGr,hil]
        have hgt : ([[V.fptr hc 0]] : List (List V))[i]? = some [V.fptr hc 0]:=by rw [hi0]; rfl
        have hnb : ([[V.fptr hc 0]] : List (List V)) = (h.rooms.take (i + 1)).map hRow1:=by rw [← hna,hi0]; rfl
        refine CW.sound ?_
        simp only [method_specs_simp,seval,encHb,encGr,hgt]
        refine ⟨by omega,by omega,?_⟩
        refine clY.con hacc ⟨hcr,trivial⟩ ?_
        simp only [method_specs_simp,seval,encHb,encGr]
        have w2 : IntKind.i64.wrap ((lefts (h.rooms.take i) : Int) + (accI g (hsG g)).length) = (lefts (h.rooms.take (i + 1)) : Int):=by rw [wrap_id (by omega) (by omega),hnl]; omega
        rw [w2,hnb]
        refine CW.sound ?_
        simp only [method_specs_simp,seval,encHb,encGr,w1]
        refine Again.mk (i + 1) [0,1,5] ⟨h1,by omega,fun j g' hj hg'=>?_⟩ (Zc h1 (Zb _)) ?_
        ·rcases Yq.1 hj with hj | rfl
         ·exact hok j g' hj hg'
         ·rw [hg] at hg'
          injection hg' with hg'
          subst hg'
          unfold okRm
          rw [hr,decide_eq_true hb]; rfl
        ·have z3 : sHv (i + 1) = .ar 2 0 (i + 1):=rfl
         have z4 : sHo h.rooms (i + 1) = [.arr true 1 ((h.rooms.take (i + 1)).map hRow1)]:=rfl
         subst hi0
         simp only [mvcgen_simp,method_specs_simp,seval,encHb,encGr,z3,z4]
       ·have hb2 : (g.room != (i : Int) + 1) = true:=by simp; omega
        simp only [method_specs_simp,seval,encHb,encGr,hb2]
        exact ⟨trivial,(hbad i g hg (by unfold okRm; rw [hr,decide_eq_false hb]; rfl)).symm⟩
     ·have z1 : sHv i = .ar 2 0 i:=by cases i with
       | zero=>omega
       | succ i=>rfl
      have z2 : sHo h.rooms i = [.arr true 1 ((h.rooms.take i).map hRow1)]:=by cases i with
       | zero=>omega
       | succ i=>rfl
      simp only [method_specs_simp,seval,encHb,encGr,hg,z1,z2]
      refine ⟨by omega,by omega,?_⟩
      refine SW.seq (CW.sound ?_)
      simp only [method_specs_simp,seval,encHb,encGr]
      refine clY.con (c_GraphRight g hgOK) (by simp only [method_specs_simp,encGr]) ?_
      cases hr : Gm.grRight g with
      | false =>
       simp only [method_specs_simp,seval,encHb,encGr]
       exact ⟨trivial,(hbad i g hg (by unfold okRm; rw [hr]; rfl)).symm⟩
      | true =>
       have h2 : GG g:=⟨hgOK,hr⟩
       simp only [method_specs_simp,seval,encHb,encGr,w1]
       by_cases hb : g.room = (i : Int) + 1
       ·have hb2 : (g.room != (i : Int) + 1) = false:=by simp; omega
        simp only [method_specs_simp,seval,encHb,encGr,hb2]
        refine SW.seq (CW.sound ?_)
        simp only [method_specs_simp,seval,encHb,encGr]
        refine ⟨by kernel_rfl,?_⟩
        refine clY.con (c_newHistory g h2) (by simp only [method_specs_simp,encGr]) ?_
        obtain ⟨hc,hhc⟩ : ∃ cs,hF g (hsG g) = .fptr cs 0:=⟨_,rfl⟩
        rw [show hF g (hsN g (depM g.events (Gm.depthsE g.events) g.events.length) (evsO g)) = hF g (hsG g) from rfl,hhc]
        have hcr : Ref (fun _=>False) (.fptr hc 0):=by rw [← hhc]; exact hF_ref _ _ _
        have hacc : Con P 77 [.fptr hc 0] (.sl 1 ((accI g (hsG g)).map encI)):=by rw [← hhc]; exact c_accepted g (hsG g) h2
        have hal : (accI g (hsG g)).length ≤ 60:=by
         have:=Yn (okE (hsG g)) g.events
         have:=h2.n
         unfold accI
         rw [Zl]
         omega
        have hnl : lefts (h.rooms.take (i + 1)) = lefts (h.rooms.take i) + (accI g (hsG g)).length:=by
         rw [Zf,hg,Zh,lefts_app]; rfl
        have hna : (h.rooms.take i).map hRow1 ++ [[V.fptr hc 0]] = (h.rooms.take (i + 1)).map hRow1:=by
         rw [Zf,hg,Zh,Zu,← hhc]; rfl
        have hil : ((h.rooms.take i).map hRow1).length = i:=by rw [Zl,Zq]; omega
        simp only [method_specs_simp,seval,encHb,encGr,hil]
        have hgt : ((h.rooms.take i).map hRow1 ++ [[V.fptr hc 0]])[i]? = some [V.fptr hc 0]:=by rw [ZQ (by omega),hil,ZT]; rfl
        have hnb:=hna
        refine ⟨by omega,by omega,?_⟩
        refine CW.sound ?_
        simp only [method_specs_simp,seval,encHb,encGr,hgt]
        refine ⟨by omega,by omega,?_⟩
        refine clY.con hacc ⟨hcr,trivial⟩ ?_
        simp only [method_specs_simp,seval,encHb,encGr]
        have w2 : IntKind.i64.wrap ((lefts (h.rooms.take i) : Int) + (accI g (hsG g)).length) = (lefts (h.rooms.take (i + 1)) : Int):=by rw [wrap_id (by omega) (by omega),hnl]; omega
        rw [w2,hnb]
        refine CW.sound ?_
        simp only [method_specs_simp,seval,encHb,encGr,w1]
        refine Again.mk (i + 1) [0,1,5] ⟨h1,by omega,fun j g' hj hg'=>?_⟩ (Zc h1 (Zb _)) ?_
        ·rcases Yq.1 hj with hj | rfl
         ·exact hok j g' hj hg'
         ·rw [hg] at hg'
          injection hg' with hg'
          subst hg'
          unfold okRm
          rw [hr,decide_eq_true hb]; rfl
        ·have z3 : sHv (i + 1) = .ar 2 0 (i + 1):=rfl
         have z4 : sHo h.rooms (i + 1) = [.arr true 1 ((h.rooms.take (i + 1)).map hRow1)]:=rfl
         simp only [mvcgen_simp,method_specs_simp,seval,encHb,encGr,z3,z4]
       ·have hb2 : (g.room != (i : Int) + 1) = true:=by simp; omega
        simp only [method_specs_simp,seval,encHb,encGr,hb2]
        exact ⟨trivial,(hbad i g hg (by unfold okRm; rw [hr,decide_eq_false hb]; rfl)).symm⟩
    ·have hi3 : i = h.rooms.length:=by simp only [decide_eq_false_iff_not,Ze,Za] at h1; omega
     have hrm : rmOK h.rooms = true:=rmOK_at.2 fun j g hg=>hok j g (by have:=(Zp.1 hg).1; omega) hg
     have z1 : sHv i = .ar 2 0 h.rooms.length:=by rw [hi3,h3]; rfl
     have z2 : sHo h.rooms i = [.arr true 1 (h.rooms.map hRow1)]:=by rw [hi3,h3]; show [Ob.arr true 1 ((h.rooms.take 3).map hRow1)] = _; rw [← h3,Zr]
     have hll : lefts (h.rooms.take i) = lefts h.rooms:=by rw [hi3,Zr]
     rw [z1,z2,hll]
     rw [hi3,Zr] at hlf
     clear z1 z2 hll hok
     refine SW.freeze [0,1,2] ?_
     simp only [mvcgen_simp,method_specs_simp,seval,encHb,encGr,convs_r8j,conv_junkj]
     refine sw_deep 2 ?_
     simp only [mvcgen_simp,method_specs_simp,seval,encHb,encGr,map_r8,ZO,Yh]
     refine SW.wk [] (st':=⟨pad 126 [.junk,.fptr (encHb h) 0,.junk,.bool false,srvV h,.int .i64 (lefts h.rooms)],[],[]⟩) ?_ ?_
     ·simp only [mvcgen_simp,method_specs_simp,seval,encHb,encGr,srvV,sRow]
     have hsr:=srvV_ref (fun _=>False) h
     refine SW.seq (CW.sound ?_)
     simp only [method_specs_simp,seval,encHb,encGr]
     refine bxX_mapq (lv:=true) (ks:=[]) (vs:=[]) rfl ?_
     simp only [method_specs_simp,seval,encHb,encGr]
     refine SW.seq (CW.sound ?_)
     simp only [method_specs_simp,seval,encHb,encGr]
     have hbad2 : ∀ (j : Nat) (x : Sp),h.stream[j]? = some x → okSp h.rooms (h.stream.take j) x = false → nsR h = .tup [.junk,.bool false]:=fun j g hg hn=>by
      unfold nsR
      rw [if_neg]
      intro hc
      simp only [Zm] at hc
      rw [stOK_at.1 hc.2.2.2 j g hg] at hn
      cases hn
     refine SW.while (A:=Nat) (fun k=>⟨pad 126 [.junk,.fptr (encHb h) 0,.junk,.bool false,srvV h,.int .i64 (lefts h.rooms),.junk,.junk,.ptr 1 0,.junk,.junk,.junk,.junk,.junk,.junk,.junk,.junk,.junk,.junk,.junk,.junk,.junk,.junk,.junk,.junk,.junk,.junk,.junk,.junk,.junk,.junk,.junk,.junk,.junk,.junk,.junk,.junk,.junk,.junk,.junk,.junk,.junk,.junk,.junk,.junk,.junk,.junk,.junk,.junk,.junk,.junk,.junk,.junk,.junk,.junk,.junk,.junk,.junk,.junk,.junk,.junk,.junk,.junk,.junk,.junk,.junk,.junk,.junk,.junk,.junk,.sl 2 (h.stream.map encSp),.int .i64 h.stream.length,.int .i64 k],[.mp true (kSp (h.stream.take k)) (vSp (h.stream.take k)),.box true [.map 0]],[]⟩) (fun k=>h.stream.length - k) (fun k=>k ≤ h.stream.length ∧ ∀ j x,j < k → h.stream[j]? = some x → okSp h.rooms (h.stream.take j) x = true) 0 [0,1] ⟨Zi _,fun j g hj=>absurd hj (YC _)⟩ ?_ ?_
     ·have h0 : kSp (h.stream.take 0) = []:=rfl
      have h0' : vSp (h.stream.take 0) = []:=rfl
      rw [h0,h0']
      simp only [mvcgen_simp,method_specs_simp,seval,encHb,encGr]
     ·clear hi h1 hi3 i
      rintro k ⟨hk,hok⟩
      have w1 : IntKind.i64.wrap ((k : Int) + 1) = ((k + 1 : Nat) : Int):=wadd1 k (by omega)
      refine SW.seq (CW.sound ?_)
      simp only [method_specs_simp,seval,encHb,encGr]
      refine SW.seq (CW.sound ?_)
      simp only [method_specs_simp,seval,encHb,encGr]
      refine gB_split (fun h1=>?_) (fun h1=>?_)
      ·simp only [decide_eq_true_eq,Za] at h1
       obtain ⟨x,hx⟩ : ∃ x,h.stream[k]? = some x:=⟨_,Zd h1⟩
       obtain ⟨met,hmet⟩ : ∃ met,met = h.stream.take k:=⟨_,rfl⟩
       have hbx:=hbad2 k x hx
       rw [← hmet] at hbx ⊢
       refine SW.seq (SW.block ?_)
       refine SW.seq (CW.sound ?_)
       simp only [method_specs_simp,seval,encHb,encGr,hx,encSp]
       refine ⟨by omega,by omega,?_⟩
       refine SW.seq (CW.sound ?_)
       simp only [method_specs_simp,seval,encHb,encGr]
       refine clY.con (c_isRoom x.room) ⟨trivial,trivial⟩ ?_
       cases hb : Gm.isB x.room 1 3 with
       | false =>
        simp only [method_specs_simp,seval,encHb,encGr]
        exact ⟨trivial,(hbx (by unfold okSp; rw [hb]; rfl)).symm⟩
       | true =>
        simp only [method_specs_simp,seval,encHb,encGr]
        refine lkY.spots (k:=x) met (by rfl) (by simp only [method_specs_simp]) ?_
        cases hm : met.contains x with
        | true =>
         simp only [method_specs_simp,seval,encHb,encGr]
         exact ⟨trivial,(hbx (by unfold okSp; rw [hb,hm]; rfl)).symm⟩
        | false =>
         simp only [method_specs_simp,seval,encHb,encGr]
         obtain ⟨b1,b2⟩ : 1 ≤ x.room ∧ x.room ≤ 3:=by unfold Gm.isB at hb; simpa using hb
         obtain ⟨g,hgA⟩ : ∃ g,g = gAt h.rooms x.room:=⟨_,rfl⟩
         have hg : h.rooms[(x.room - 1).toNat]? = some g:=by
          rw [hgA]; unfold gAt
          rw [ZG,Zd (by omega)]; rfl
         have h2 : GG g:=⟨hh.1.2 g (Zg hg),by
          have:=rmOK_at.1 hrm _ g hg
          unfold okRm at this
          simp only [Zm] at this
          exact this.1⟩
         unfold okSp at hbx
         rw [← hgA,hb,hm,ZH,Bool.not_false,ZH] at hbx
         have hsrm : Con P 78 [srvV h,.int .i64 x.room] (hF g (hsG g)):=c_sroom h.rooms x.room g _ _ b1 hg (by omega)
         refine SW.seq (CW.sound ?_)
         simp only [method_specs_simp,seval,encHb,encGr]
         refine clY.con hsrm ⟨hsr,trivial,trivial⟩ ?_
         simp only [method_specs_simp,seval,encHb,encGr,hF]
         refine SW.seq (CW.sound ?_)
         simp only [method_specs_simp,seval,encHb,encGr]
         refine ⟨by kernel_rfl,?_⟩
         refine clY.con (c_at g x.id h2.hx h2.srt) (by simp only [method_specs_simp,encGr]) ?_
         obtain ⟨e,he⟩ : ∃ e,e = (atE g.events x.id).getD zE:=⟨_,rfl⟩
         rw [← he] at hbx ⊢
         cases hi : (atE g.events x.id).isSome with
         | false =>
          simp only [method_specs_simp,seval,encHb,encGr,encEv]
          refine SW.seq (CW.sound ?_)
          simp only [method_specs_simp,seval,encHb,encGr]
          refine ⟨by kernel_rfl,?_⟩
          exact ⟨trivial,(hbx (by rw [hi]; rfl)).symm⟩
         | true =>
          simp only [method_specs_simp,seval,encHb,encGr,encEv]
          refine SW.seq (CW.sound ?_)
          simp only [method_specs_simp,seval,encHb,encGr]
          refine ⟨by kernel_rfl,?_⟩
          refine lkY.ints (V.int .i64) (hsG g).R 0 rfl (by simp only [method_specs_simp]) ?_
          cases ho : okI g x.id with
          | false =>
           have ho2 : (lookD (hsG g).R x.id 0 != 0) = true:=by unfold okI at ho; simpa using ho
           simp only [method_specs_simp,seval,encHb,encGr,ho2]
           exact ⟨trivial,(hbx (by rw [hi,ho]; rfl)).symm⟩
          | true =>
           have ho2 : (lookD (hsG g).R x.id 0 != 0) = false:=by unfold okI at ho; simpa using ho
           simp only [method_specs_simp,seval,encHb,encGr,ho2]
           have hpl : e.prev.length < 2 ^ 62:=by
            have:=(h2.four e (by
             obtain ⟨y,hy⟩:=Yy.1 hi
             rw [hy] at he
             rw [he]
             exact Yw hy))
            omega
           refine clY.conD 3 (c_containsFI e.prev 81 [.fptr [hF g (hsG g)] 0,.fptr [.fmap (kSp met) (vSp met)] 0,.fptr (encSp x) 0] (fun id=>okI g id && !met.contains ⟨x.room,id⟩) ⟨⟨hF_ref _ _ _,trivial⟩,⟨⟨kSp_ref _ _,vSp_ref _ _⟩,trivial⟩,encSp_ref1 _ x,trivial⟩ (fun id _=>c_ns1 g x met id) hpl) ?_ ⟨of_eq_true (encI_refs _ _),⟨trivial,⟨hF_ref _ _ _,trivial⟩,⟨⟨kSp_ref _ _,vSp_ref _ _⟩,trivial⟩,encSp_ref1 _ x,trivial⟩,trivial⟩ trivial ?_
           ·simp only [ZY,Zz,ZO,Yh,dcv,YI,Yl]
            rw [List.map_id',List.map_id']
            rfl
           cases ha : e.prev.any fun id=>okI g id && !met.contains ⟨x.room,id⟩ with
           | true =>
            simp only [method_specs_simp,seval,encHb,encGr]
            exact ⟨trivial,(hbx (by rw [hi,ho,ha]; rfl)).symm⟩
           | false =>
            simp only [method_specs_simp,seval,encHb,encGr]
            refine CW.sound ?_
            simp only [method_specs_simp,seval,encHb,encGr]
            refine muY.spots met (k:=x) hm rfl (by simp only [method_specs_simp]) ?_
            simp only [method_specs_simp,seval,encHb,encGr]
            have hnm : met ++ [x] = h.stream.take (k + 1):=by rw [Zf,hx,hmet]; rfl
            rw [hnm]
            refine CW.sound ?_
            simp only [method_specs_simp,seval,encHb,encGr,w1]
            refine Again.mk (k + 1) [0,1] ⟨h1,fun j y hj hy=>?_⟩ (Zc h1 (Zb _)) ?_
            ·rcases Yq.1 hj with hj | rfl
             ·exact hok j y hj hy
             ·rw [hx] at hy
              injection hy with hy
              subst hy
              rw [← hmet]
              unfold okSp
              rw [← hgA,← he,hb,hm,hi,ho,ha]; rfl
            ·simp only [mvcgen_simp,method_specs_simp,seval,encHb,encGr]
      ·have hi3 : k = h.stream.length:=by simp only [decide_eq_false_iff_not,Ze,Za] at h1; omega
       have hst : stOK h.rooms h.stream = true:=stOK_at.2 fun j g hg=>hok j g (by have:=(Zp.1 hg).1; omega) hg
       refine CW.sound ?_
       simp only [method_specs_simp,seval,encHb,encGr]
       have hns : nsR h = .tup [srvV h,.bool (lefts h.rooms == h.stream.length)]:=by
        unfold nsR
        rw [if_pos]
        rw [hrm,hst,decide_eq_true h3,decide_eq_true h120]; rfl
       have hbe : (((lefts h.rooms : Nat) : Int) == ((h.stream.length : Nat) : Int)) = (lefts h.rooms == h.stream.length):=by rw [ZE]; simp only [beq_iff_eq]; omega
       rw [hns,hbe]
       exact ⟨by kernel_rfl,hsr,rfl⟩
  ·have e2 : decide ((h.stream.length : Int) > 120) = true:=by simp; omega
   have e1 : ((h.rooms.length : Int) != 3) = false:=by rw [h3]; rfl
   have hn : nsR h = .tup [.junk,.bool false]:=by unfold nsR; rw [if_neg]; simp [h120]
   rw [hn]
   refine SW.seq (CW.sound ?_)
   simp only [method_specs_simp,seval,encHb,encGr,e1,e2]
   exact ⟨trivial,rfl⟩
 ·have e1 : ((h.rooms.length : Int) != 3) = true:=by simp; omega
  have hn : nsR h = .tup [.junk,.bool false]:=by unfold nsR; rw [if_neg]; simp [h3]
  rw [hn]
  refine SW.seq (CW.sound ?_)
  simp only [method_specs_simp,seval,encHb,encGr,e1]
  exact ⟨trivial,rfl⟩
end
def posS (s : List Sp) (x : Sp) : Int:=if s.contains x then (s.idxOf x : Int) + 1 else 0
theorem posS_snoc {s : List Sp} {x : Sp} (h : s.contains x = false) (y : Sp) : posS (s ++ [x]) y = if y = x then (s.length : Int) + 1 else posS s y:=by
 unfold posS
 by_cases hy : y = x
 ·subst hy
  have hn : y ∉ s:=fun hm=>by rw [Zk.2 hm] at h; cases h
  rw [if_pos rfl,if_pos (by simp),Wi,if_neg hn]
  simp
 ·rw [if_neg hy]
  have hc : (s ++ [x]).contains y = s.contains y:=by
   rw [ZE]
   simp [hy]
  rw [hc]
  cases hs : s.contains y with
  | false=>rfl
  | true =>
   rw [if_pos rfl,if_pos rfl,Wi,if_pos (Zk.1 hs)]
def posL (s : List Sp) (g : Gr) : List Int:=g.events.map fun e=>posS s ⟨g.room,e.id⟩
theorem posL_len (s : List Sp) (g : Gr) : (posL s g).length = g.events.length:=Zl _
theorem posL_get {g : Gr} (s : List Sp) {k : Nat} {e : Ev} (he : g.events[k]? = some e) : (posL s g)[k]? = some (posS s ⟨g.room,e.id⟩):=by unfold posL; rw [ZC,he]; rfl
theorem posL_snoc {g : Gr} (h : GG g) {s : List Sp} {x : Sp} (hn : s.contains x = false) : posL (s ++ [x]) g = if x.room = g.room ∧ Gm.hasId g.events x.id = true then (posL s g).set (Gm.fidE g.events x.id) ((s.length : Int) + 1) else posL s g:=by
 split
 ·rename_i hc
  obtain ⟨h1,h2⟩:=hc
  obtain ⟨e,he,hei⟩:=Gm.fid_get h2
  have:=set_map h.srt he (fun e=>posS s ⟨g.room,e.id⟩) (fun e=>posS (s ++ [x]) ⟨g.room,e.id⟩) (fun y hy hne=>by
   rw [posS_snoc hn,if_neg]
   rintro rfl
   exact hne hei.symm)
  unfold posL
  rw [← this,posS_snoc hn,if_pos]
  rw [hei,← h1]
 ·rename_i hc
  unfold posL
  refine Wg fun e he=>?_
  rw [posS_snoc hn,if_neg]
  rintro rfl
  exact hc ⟨rfl,has_mem he⟩
def ndS (s : List Sp) : Bool:=s.zipIdx.all fun p=>!(s.take p.2).contains p.1
theorem ndS_at {s : List Sp} : ndS s = true ↔ ∀ i x,s[i]? = some x → (s.take i).contains x = false:=by
 unfold ndS
 rw [Zn]
 constructor
 ·intro h i g hg
  simpa using h (g,i) (Yi.2 hg)
 ·rintro h ⟨g,i⟩ hp
  simpa using h i g (Yi.1 hp)
def kRow1 (g : Gr) : List V:=[kS g (hsG g)]
def pRow1 (s : List Sp) (g : Gr) : List V:=[.sl 1 ((posL s g).map encI)]
def nRow1 (g : Gr) : List V:=[.sl 3 ((curG g).map encEnt)]
def wRow (h : Hb) : List V:=[.sl 3 (h.rooms.map encGr),.sl 2 (h.stream.map encSp),.sl 1 (h.rooms.map kRow1),.sl 1 (h.rooms.map (pRow1 h.stream)),.sl 1 (h.rooms.map nRow1)]
def wV (h : Hb) : V:=.fptr (wRow h) 0
theorem kRow1_ref (ok : Nat → Prop) (g : Gr) : Refs ok (kRow1 g):=⟨kS_ref ok g _,trivial⟩
theorem pRow1_ref (ok : Nat → Prop) (s : List Sp) (g : Gr) : Refs ok (pRow1 s g):=⟨of_eq_true (encI_refs ok _),trivial⟩
theorem nRow1_ref (ok : Nat → Prop) (g : Gr) : Refs ok (nRow1 g):=⟨of_eq_true (encEnt_refs ok _),trivial⟩
@[method_specs_simp] theorem kRow1_refs (ok : Nat → Prop) (l : List Gr) : Refss ok (l.map kRow1) = True:=eq_true (Refss_map fun g=>kRow1_ref ok g)
@[method_specs_simp] theorem kRow1_rens (ρ : Nat → Nat) (l : List Gr) : renss ρ (l.map kRow1) = l.map kRow1:=renss_map fun g=>kRow1_ref _ g
@[method_specs_simp] theorem pRow1_refs (ok : Nat → Prop) (s : List Sp) (l : List Gr) : Refss ok (l.map (pRow1 s)) = True:=eq_true (Refss_map fun g=>pRow1_ref ok s g)
@[method_specs_simp] theorem pRow1_rens (ρ : Nat → Nat) (s : List Sp) (l : List Gr) : renss ρ (l.map (pRow1 s)) = l.map (pRow1 s):=renss_map fun g=>pRow1_ref _ s g
@[method_specs_simp] theorem nRow1_refs (ok : Nat → Prop) (l : List Gr) : Refss ok (l.map nRow1) = True:=eq_true (Refss_map fun g=>nRow1_ref ok g)
@[method_specs_simp] theorem nRow1_rens (ρ : Nat → Nat) (l : List Gr) : renss ρ (l.map nRow1) = l.map nRow1:=renss_map fun g=>nRow1_ref _ g
theorem wV_ref (ok : Nat → Prop) (h : Hb) : Ref ok (wV h):=by
 show Refs ok (wRow h)
 simp only [wRow,Refs,Ref,encGr_refs,encSp_refs,kRow1_refs,pRow1_refs,nRow1_refs,and_self]
section
variable {P : Program} [Is P]
theorem c_l07All (h : Hb) (hh : HbOK h) (h3 : h.rooms.length = 3) (h120 : h.stream.length ≤ 120) (hrm : rmOK h.rooms = true) (hnd : ndS h.stream = true) : Con P 86 [.agg (encHb h)] (wV h):=by
 have hs2:=hh.2
 refine Con.ofS (n:=100) (rs:=[.tmp 2]) (Is.fn Tryz.func86) rfl (Is.call Tryz.call86) Tryz.results86 Tryz.ntmps86 (wV_ref _ h) ?_
 refine SW.seq (CW.sound ?_)
 simp only [method_specs_simp,seval,encHb,encGr]
 refine SW.seq (CW.sound ?_)
 simp only [method_specs_simp,seval,encHb,encGr]
 refine SW.nilcell 1 2 1 rfl rfl (by decide) ?_
 refine SW.nilcell 1 3 1 rfl rfl (by decide) ?_
 refine SW.nilcell 1 4 1 rfl rfl (by decide) ?_
 refine SW.seq (CW.sound ?_)
 simp only [method_specs_simp,seval,encHb,encGr]
 refine SW.while (A:=Nat) (fun i=>⟨pad 100 [.junk,.ptr 0 0,.junk,.ptr 1 0,.int .i64 i],[.box true (encHb h),.box true [.sl 3 (h.rooms.map encGr),.sl 2 (h.stream.map encSp),.ar 2 0 i,.ar 3 0 i,.ar 4 0 i],.arr true 1 ((h.rooms.take i).map kRow1),.arr true 1 ((h.rooms.take i).map (pRow1 h.stream)),.arr true 1 ((h.rooms.take i).map nRow1)],[]⟩) (fun i=>h.rooms.length - i) (fun i=>i ≤ h.rooms.length) 0 [0,1,2,3,4] (Zi _) ?_ ?_
 ·have z1 : (h.rooms.take 0).map kRow1 = []:=rfl
  have z2 : (h.rooms.take 0).map (pRow1 h.stream) = []:=rfl
  have z3 : (h.rooms.take 0).map nRow1 = []:=rfl
  rw [z1,z2,z3]
  simp only [mvcgen_simp,method_specs_simp,seval,encHb,encGr]
 ·intro i hi
  have w1 : IntKind.i64.wrap ((i : Int) + 1) = ((i + 1 : Nat) : Int):=wadd1 i (by omega)
  have l1 : ((h.rooms.take i).map kRow1).length = i:=by rw [Zl,Zq]; omega
  have l2 : ((h.rooms.take i).map (pRow1 h.stream)).length = i:=by rw [Zl,Zq]; omega
  have l3 : ((h.rooms.take i).map nRow1).length = i:=by rw [Zl,Zq]; omega
  refine SW.seq (CW.sound ?_)
  simp only [method_specs_simp,seval,encHb,encGr]
  refine gB_split (fun h1=>?_) (fun h1=>?_)
  ·simp only [decide_eq_true_eq,Za] at h1
   obtain ⟨g,hg⟩ : ∃ g,h.rooms[i]? = some g:=⟨_,Zd h1⟩
   have hgOK:=hh.1.2 g (Zg hg)
   have h2 : GG g:=⟨hgOK,by
    have:=rmOK_at.1 hrm i g hg
    unfold okRm at this
    simp only [Zm] at this
    exact this.1⟩
   have h60:=h2.n
   have n1 : (h.rooms.take i).map kRow1 ++ [[kS g (hsG g)]] = (h.rooms.take (i + 1)).map kRow1:=by
    rw [Zf,hg,Zh,Zu]; rfl
   have n2 : (h.rooms.take i).map (pRow1 h.stream) ++ [[V.sl 1 ((posL h.stream g).map encI)]] = (h.rooms.take (i + 1)).map (pRow1 h.stream):=by
    rw [Zf,hg,Zh,Zu]; rfl
   have n3 : (h.rooms.take i).map nRow1 ++ [[V.sl 3 ((curG g).map encEnt)]] = (h.rooms.take (i + 1)).map nRow1:=by
    rw [Zf,hg,Zh,Zu]; rfl
   refine SW.seq (SW.block ?_)
   refine SW.seq (CW.sound ?_)
   simp only [method_specs_simp,seval,encHb,encGr,hg]
   refine ⟨by omega,by omega,?_⟩
   refine SW.seq (CW.sound ?_)
   simp only [method_specs_simp,seval,encHb,encGr]
   refine clY.con (c_l06All g h2) (by simp only [method_specs_simp,encGr]) ?_
   obtain ⟨kc,hkc⟩ : ∃ cs,kS g (hsG g) = .fptr cs 0:=⟨_,rfl⟩
   have hkr : Ref (fun _=>False) (.fptr kc 0):=by rw [← hkc]; exact kS_ref _ _ _
   have htk : Con P 129 [.fptr kc 0] (.sl 1 ((takL g (okE (hsG g))).map encB)):=by rw [← hkc]; exact c_l06Taken g _ h60
   have hcu : Con P 128 [.agg (encGr g),.fptr kc 0,.sl 1 ((takL g (okE (hsG g))).map encB)] (.sl 3 ((curG g).map encEnt)):=by rw [← hkc]; exact c_l06CurG g h2
   rw [hkc] at n1 ⊢
   simp only [method_specs_simp,seval,encHb,encGr]
   refine SW.seq (CW.sound ?_)
   simp only [method_specs_simp,seval,encHb,encGr,l1,n1]
   refine ⟨by omega,by omega,?_⟩
   refine SW.seq (CW.sound ?_)
   simp only [method_specs_simp,seval,encHb,encGr]
   refine ⟨by kernel_rfl,?_⟩
   refine clY.con htk ⟨hkr,trivial⟩ ?_
   simp only [method_specs_simp,seval,encHb,encGr]
   refine clY.con hcu ⟨encGr_ref1 _ g,hkr,of_eq_true (encB_refs _ _),trivial⟩ ?_
   simp only [method_specs_simp,seval,encHb,encGr,l3,n3]
   refine ⟨by omega,by omega,?_⟩
   refine SW.seq (CW.sound ?_)
   simp only [method_specs_simp,seval,encHb,encGr]
   refine ⟨by omega,by omega,by omega,?_⟩
   refine SW.seq (CW.sound ?_)
   simp only [method_specs_simp,seval,encHb,encGr]
   refine SW.while (A:=Nat) (fun k=>⟨pad 100 [.junk,.ptr 0 0,.junk,.ptr 1 0,.int .i64 i,.ptr 3 0,.junk,.ar 6 0 g.events.length,.int .i64 k],[.box true (encHb h),.box true [.sl 3 (h.rooms.map encGr),.sl 2 (h.stream.map encSp),.ar 4 0 (i + 1),.ar 2 0 i,.ar 5 0 (i + 1)],.arr true 1 ((h.rooms.take i).map (pRow1 h.stream)),.box true (encGr g),.arr true 1 ((h.rooms.take (i + 1)).map kRow1),.arr true 1 ((h.rooms.take (i + 1)).map nRow1),.arr true 1 ((posL (h.stream.take k) g).map encI)],[]⟩) (fun k=>h.stream.length - k) (fun k=>k ≤ h.stream.length) 0 [0,1,3,5,7,9,10] (Zi _) ?_ ?_
   ·have h0 : (posL (h.stream.take 0) g).map encI = Zs g.events.length [V.int .i64 0]:=by
     unfold posL
     rw [List.map_map]
     show g.events.map (fun _=>[V.int .i64 0]) = _
     simp only [YR]
    rw [← h0]
    simp only [mvcgen_simp,method_specs_simp,seval,encHb,encGr]
   ·intro k hk
    have w2 : IntKind.i64.wrap ((k : Int) + 1) = ((k + 1 : Nat) : Int):=wadd1 k (by omega)
    refine SW.seq (CW.sound ?_)
    simp only [method_specs_simp,seval,encHb,encGr]
    refine gB_split (fun h4=>?_) (fun h4=>?_)
    ·simp only [decide_eq_true_eq,Za] at h4
     obtain ⟨x,hx⟩ : ∃ x,h.stream[k]? = some x:=⟨_,Zd h4⟩
     have hnx:=ndS_at.1 hnd k x hx
     have hlk : (h.stream.take k).length = k:=by rw [Zq]; omega
     have hps:=posL_snoc h2 hnx
     rw [show h.stream.take k ++ [x] = h.stream.take (k + 1) by rw [Zf,hx]; rfl,hlk] at hps
     obtain ⟨L,hL⟩ : ∃ L,L = posL (h.stream.take k) g:=⟨_,rfl⟩
     have hLl : L.length = g.events.length:=by rw [hL,posL_len]
     rw [← hL] at hps ⊢
     refine SW.seq (SW.block ?_)
     refine SW.seq (CW.sound ?_)
     simp only [method_specs_simp,seval,encHb,encGr,hx,encSp]
     refine ⟨by kernel_rfl,by omega,by omega,?_⟩
     refine clY.con (c_l03At g.events x.id (by omega)) ⟨of_eq_true (encEv_refs _ _),trivial,trivial⟩ ?_
     simp only [method_specs_simp,seval,encHb,encGr]
     refine CW.sound ?_
     simp only [method_specs_simp,seval,encHb,encGr,hx,encSp]
     refine ⟨by kernel_rfl,by omega,by omega,?_⟩
     cases hr : x.room == g.room with
     | false =>
      have hps2 : posL (h.stream.take (k + 1)) g = L:=by rw [hps,if_neg]; rintro ⟨q,_⟩; rw [q] at hr; simp at hr
      simp only [method_specs_simp,seval,encHb,encGr]
      refine CW.sound ?_
      simp only [method_specs_simp,seval,encHb,encGr,w2]
      refine Again.mk (k + 1) [0,1,2,3,4,5,6] h4 (Zc h4 (Zb _)) ?_
      rw [hps2]
      simp only [mvcgen_simp,method_specs_simp,seval,encHb,encGr]
     | true =>
      cases hhas : Gm.hasId g.events x.id with
      | false =>
       have hps2 : posL (h.stream.take (k + 1)) g = L:=by rw [hps,if_neg]; rintro ⟨_,q⟩; rw [q] at hhas; cases hhas
       have ha : decide (atI g.events x.id ≥ 0) = false:=by rw [atI_no hhas]; rfl
       simp only [method_specs_simp,seval,encHb,encGr,ha]
       refine CW.sound ?_
       simp only [method_specs_simp,seval,encHb,encGr,w2]
       refine Again.mk (k + 1) [0,1,2,3,4,5,6] h4 (Zc h4 (Zb _)) ?_
       rw [hps2]
       simp only [mvcgen_simp,method_specs_simp,seval,encHb,encGr]
      | true =>
       have hfl:=Gm.fid_lt hhas
       have hps2 : posL (h.stream.take (k + 1)) g = L.set (Gm.fidE g.events x.id) ((k : Int) + 1):=by rw [hps,if_pos ⟨eq_of_beq hr,hhas⟩]
       have hai:=atI_yes hhas
       have ha : decide (atI g.events x.id ≥ 0) = true:=by rw [hai]; simp
       have ha2 : (atI g.events x.id).toNat = Gm.fidE g.events x.id:=by rw [hai]; rfl
       simp only [method_specs_simp,seval,encHb,encGr,ha]
       refine ⟨by omega,by omega,by omega,?_⟩
       rw [ha2,w2]
       refine CW.sound ?_
       simp only [method_specs_simp,seval,encHb,encGr,w2]
       refine Again.mk (k + 1) [0,1,2,3,4,5,6] h4 (Zc h4 (Zb _)) ?_
       rw [hps2]
       simp only [mvcgen_simp,method_specs_simp,seval,encHb,encGr]
    ·have hk2 : k = h.stream.length:=by simp only [decide_eq_false_iff_not,Ze,Za] at h4; omega
     rw [hk2,Zr]
     refine SW.freeze [6] ?_
     simp only [mvcgen_simp,method_specs_simp,seval,encHb,encGr,convs_r8j,conv_junkj]
     have htl : ZL g.events.length ((posL h.stream g).map encI) = (posL h.stream g).map encI:=Zt (by rw [Zl,posL_len]; omega)
     rw [htl]
     refine CW.sound ?_
     simp only [method_specs_simp,seval,encHb,encGr,l2,n2]
     refine ⟨by omega,by omega,?_⟩
     refine CW.sound ?_
     simp only [method_specs_simp,seval,encHb,encGr,w1]
     refine Again.mk (i + 1) [0,1,4,8,5] h1 (Zc h1 (Zb _)) ?_
     simp only [mvcgen_simp,method_specs_simp,seval,encHb,encGr]
  ·have hi3 : i = h.rooms.length:=by simp only [decide_eq_false_iff_not,Ze,Za] at h1; omega
   rw [hi3,Zr]
   refine SW.freeze [0,1,2,3,4] ?_
   simp only [mvcgen_simp,method_specs_simp,seval,encHb,encGr,convs_r8j,conv_junkj]
   refine sw_deep 2 ?_
   simp only [mvcgen_simp,method_specs_simp,seval,encHb,encGr,map_r8,ZO,Yh]
   refine CW.sound ?_
   simp only [method_specs_simp,seval,encHb,encGr]
   rfl
end
def posE (s : List Sp) (g : Gr) (e : Ev) : Int:=posS s ⟨g.room,e.id⟩
def strB (s : List Sp) (g : Gr) (e : Ev) : Bool:=!decide (posE s g e > 0) || e.prev.all fun p=>decide (posS s ⟨g.room,p⟩ < posE s g e)
def strE (s : List Sp) (g : Gr) (e : Ev) : Bool:=(okI g e.id == decide (posE s g e > 0)) && strB s g e
def strS (h : Hb) : Bool:=h.rooms.all fun g=>g.events.all fun e=>strE h.stream g e
def cntE (s : List Sp) (g : Gr) (l : List Ev) : Nat:=(l.filter fun e=>decide (posE s g e > 0)).length
def cntS (s : List Sp) : List Gr → Nat
 | []=>0
 | g :: l=>cntE s g g.events + cntS s l
theorem cntS_app (s : List Sp) : ∀ l l' : List Gr,cntS s (l ++ l') = cntS s l + cntS s l'
 | [],l'=>by simp [cntS]
 | g :: l,l'=>by simp only [ZM,cntS,cntS_app s l l']; omega
theorem cntE_app (s : List Sp) (g : Gr) (l l' : List Ev) : cntE s g (l ++ l') = cntE s g l + cntE s g l':=by unfold cntE; rw [YA,ZB]
section
variable {P : Program} [Is P]
theorem c_l07Streamed (h : Hb) (hh : HbOK h) (h3 : h.rooms.length = 3) (h120 : h.stream.length ≤ 120) (hrm : rmOK h.rooms = true) : Con P 87 [wV h] (.bool (strS h && (cntS h.stream h.rooms == h.stream.length))):=by
 have hbad : ∀ (i : Nat) (g : Gr) (k : Nat) (e : Ev),h.rooms[i]? = some g → g.events[k]? = some e → strE h.stream g e = false → (strS h && (cntS h.stream h.rooms == h.stream.length)) = false:=fun i g k e hg he hb=>by
  have : strS h = false:=by
   cases hs : strS h with
   | false=>rfl
   | true =>
    unfold strS at hs
    rw [Zn] at hs
    have h1:=hs g (Zg hg)
    rw [Zn] at h1
    rw [h1 e (Zg he)] at hb
    cases hb
  rw [this]; rfl
 have hwr:=wV_ref (fun _=>False) h
 refine Con.ofS (n:=136) (rs:=[.tmp 2]) (Is.fn Tryz.func87) rfl (Is.call Tryz.call87) Tryz.results87 Tryz.ntmps87 trivial ?_
 refine SW.seq (CW.sound ?_)
 simp only [method_specs_simp,seval,encGr,kS,wV,wRow]
 refine SW.seq (CW.sound ?_)
 simp only [method_specs_simp,seval,encGr,kS,wV,wRow]
 refine SW.seq (CW.sound ?_)
 simp only [method_specs_simp,seval,encGr,kS,wV,wRow]
 refine SW.while (A:=Nat) (fun i=>⟨pad 136 [wV h,.junk,.bool false,.int .i64 (cntS h.stream (h.rooms.take i)),.int .i64 i],[],[]⟩) (fun i=>h.rooms.length - i) (fun i=>i ≤ h.rooms.length ∧ cntS h.stream (h.rooms.take i) ≤ 60 * i ∧ ∀ g ∈ h.rooms.take i,∀ e ∈ g.events,strE h.stream g e = true) 0 [] ⟨Zi _,Zj _,fun g hg=>absurd hg (YD)⟩ ?_ ?_
 ·simp only [mvcgen_simp,method_specs_simp,seval,encGr,kS,wV,wRow]
  rfl
 ·rintro i ⟨hi,hcn,hal⟩
  have w1 : IntKind.i64.wrap ((i : Int) + 1) = ((i + 1 : Nat) : Int):=wadd1 i (by omega)
  refine SW.seq (CW.sound ?_)
  simp only [method_specs_simp,seval,encGr,kS,wV,wRow]
  refine gB_split (fun h1=>?_) (fun h1=>?_)
  ·simp only [decide_eq_true_eq,Za] at h1
   obtain ⟨g,hg⟩ : ∃ g,h.rooms[i]? = some g:=⟨_,Zd h1⟩
   have hgOK:=hh.1.2 g (Zg hg)
   have h2 : GG g:=⟨hgOK,by
    have:=rmOK_at.1 hrm i g hg
    unfold okRm at this
    simp only [Zm] at this
    exact this.1⟩
   have h60:=h2.n
   refine SW.seq (SW.block ?_)
   refine SW.seq (CW.sound ?_)
   simp only [method_specs_simp,seval,encGr,kS,wV,wRow,hg]
   refine ⟨by omega,by omega,?_⟩
   refine SW.seq (CW.sound ?_)
   simp only [method_specs_simp,seval,encGr,kS,wV,wRow]
   refine SW.block ?_
   refine SW.while (A:=Nat) (fun k=>⟨pad 136 [wV h,.junk,.bool false,.int .i64 (cntS h.stream (h.rooms.take i) + cntE h.stream g (g.events.take k) : Nat),.int .i64 i,.ptr 0 0,.int .i64 k],[.box true (encGr g)],[]⟩) (fun k=>g.events.length - k) (fun k=>k ≤ g.events.length ∧ cntE h.stream g (g.events.take k) ≤ k ∧ ∀ e ∈ g.events.take k,strE h.stream g e = true) 0 [0] ⟨Zi _,Zj _,fun e he=>absurd he (YD)⟩ ?_ ?_
   ·have z : cntE h.stream g [] = 0:=rfl
    simp only [mvcgen_simp,method_specs_simp,seval,encGr,kS,wV,wRow]
    rw [z]
    exact Int.add_zero _
   ·rintro k ⟨hk,hce,hae⟩
    have w2 : IntKind.i64.wrap ((k : Int) + 1) = ((k + 1 : Nat) : Int):=wadd1 k (by omega)
    refine SW.seq (CW.sound ?_)
    simp only [method_specs_simp,seval,encGr,kS,wV,wRow]
    refine gB_split (fun h4=>?_) (fun h4=>?_)
    ·simp only [decide_eq_true_eq,Za] at h4
     obtain ⟨e,he⟩ : ∃ e,g.events[k]? = some e:=⟨_,Zd h4⟩
     have hem:=Zg he
     have hoR : (oR g (hsG g).R)[k]? = some [V.int .i64 (lookD (hsG g).R e.id 0)]:=oR_get _ he
     have hpo : (posL h.stream g)[k]? = some (posE h.stream g e):=posL_get _ he
     have hkr : h.rooms[i]?.map kRow1 = some [kS g (hsG g)]:=by rw [hg]; rfl
     have hpr : h.rooms[i]?.map (pRow1 h.stream) = some [V.sl 1 ((posL h.stream g).map encI)]:=by rw [hg]; rfl
     have hbe:=hbad i g k e hg he
     have hpll : (posL h.stream g).length = g.events.length:=posL_len _ _
     refine SW.seq (SW.block ?_)
     refine SW.seq (CW.sound ?_)
     simp only [method_specs_simp,seval,encGr,kS,wV,wRow,hkr,hpr]
     refine ⟨by kernel_rfl,by omega,by omega,by omega,by omega,?_⟩
     simp only [method_specs_simp,seval,encGr,kS,wV,wRow,hoR,hkr,hpr,hpo,encI]
     refine ⟨by omega,by omega,by omega,by omega,?_⟩
     rw [show (lookD (hsG g).R e.id 0 == 0) = okI g e.id from rfl]
     obtain ⟨pe,hpe⟩ : ∃ pe,pe = posE h.stream g e:=⟨_,rfl⟩
     rw [← hpe] at hpo ⊢
     cases hA : (okI g e.id != decide (pe > 0)) with
     | true =>
      simp only [method_specs_simp,seval,encGr,kS,wV,wRow]
      refine (hbe ?_).symm
      unfold strE
      rw [← hpe]
      have : (okI g e.id == decide (pe > 0)) = false:=by simpa [bne] using hA
      rw [this]; rfl
     | false =>
      have hA2 : (okI g e.id == decide (pe > 0)) = true:=by simpa [bne] using hA
      simp only [method_specs_simp,seval,encGr,kS,wV,wRow]
      refine SW.seq (CW.sound ?_)
      simp only [method_specs_simp,seval,encGr,kS,wV,wRow]
      have hfour:=h2.four e hem
      refine SW.while (A:=Nat) (fun j=>⟨pad 136 [wV h,.junk,.bool false,.int .i64 (cntS h.stream (h.rooms.take i) + cntE h.stream g (g.events.take k) : Nat),.int .i64 i,.ptr 0 0,.int .i64 k,.int .i64 j],[.box true (encGr g)],[]⟩) (fun j=>e.prev.length - j) (fun j=>j ≤ e.prev.length ∧ (0 < j → decide (pe > 0) = true) ∧ ∀ p ∈ e.prev.take j,posS h.stream ⟨g.room,p⟩ < pe) 0 [0] ⟨Zi _,fun q=>absurd q (Nat.lt_irrefl _),fun e he=>absurd he (YD)⟩ ?_ ?_
      ·simp only [mvcgen_simp,method_specs_simp,seval,encGr,kS,wV,wRow]
      ·rintro j ⟨hj,hjp,hjl⟩
       have w3 : IntKind.i64.wrap ((j : Int) + 1) = ((j + 1 : Nat) : Int):=wadd1 j (by omega)
       refine SW.seq (CW.sound ?_)
       simp only [method_specs_simp,seval,encGr,kS,wV,wRow,hkr,hpr,hpo,he,encEv,encI]
       refine ⟨by omega,by omega,?_⟩
       refine gB_split (fun h5=>?_) (fun h5=>?_)
       ·simp only [decide_eq_true_eq,Za] at h5
        refine ⟨by omega,by omega,by omega,by omega,?_⟩
        cases hP : decide (pe > 0) with
        | true =>
         obtain ⟨p,hp⟩ : ∃ p,e.prev[j]? = some p:=⟨_,Zd h5⟩
         have hpm:=Zg hp
         have hph : Gm.hasId g.events p = true:=by
          have:=h2.ain e hem
          unfold Gm.allIn at this
          exact (Zn.1 this) p hpm
         obtain ⟨e',he',hei⟩:=Gm.fid_get hph
         have hfl:=Gm.fid_lt hph
         have hai:=atI_yes hph
         obtain ⟨f,hf⟩ : ∃ f,f = Gm.fidE g.events p:=⟨_,rfl⟩
         rw [← hf] at he' hfl hai
         have hpf : (posL h.stream g)[f]? = some (posS h.stream ⟨g.room,p⟩):=by rw [posL_get _ he',hei]
         simp only [method_specs_simp,seval,encGr,kS,wV,wRow]
         refine SW.seq (SW.block ?_)
         refine CW.sound ?_
         simp only [method_specs_simp,seval,encGr,kS,wV,wRow,hkr,hpr,hpo,he,hp,encEv,encI]
         refine ⟨by kernel_rfl,by omega,by omega,by omega,by omega,by omega,by omega,?_⟩
         refine clY.con (c_l03At g.events p (by omega)) ⟨of_eq_true (encEv_refs _ _),trivial,trivial⟩ ?_
         rw [hai]
         simp only [method_specs_simp,seval,encGr,kS,wV,wRow,hpf,hkr,hpr,hpo,encI]
         refine ⟨by omega,by omega,by omega,by omega,by omega,by omega,?_⟩
         refine gB_split (fun h6=>?_) (fun h6=>?_)
         ·simp only [decide_eq_true_eq] at h6
          refine (hbe ?_).symm
          have hB : strB h.stream g e = false:=by
           unfold strB
           rw [← hpe,hP,Ze,YX,← Yj,Zn]
           intro q
           have:=of_decide_eq_true (q p hpm)
           omega
          unfold strE
          rw [hB,ZZ]
         ·simp only [decide_eq_false_iff_not,Ze] at h6
          refine CW.sound ?_
          simp only [method_specs_simp,seval,encGr,kS,wV,wRow,w3]
          refine Again.mk (j + 1) [0] ⟨h5,fun _=>by first | exact hP | trivial,fun q hq=>?_⟩ (Zc h5 (Zb _)) ?_
          ·rw [Zf,hp,Zh,ZA,Ya] at hq
           rcases hq with hq | rfl
           ·exact hjl q hq
           ·omega
          ·simp only [mvcgen_simp,method_specs_simp,seval,encGr,kS,wV,wRow]
        | false =>
         have hB : strB h.stream g e = true:=by unfold strB; rw [← hpe,hP]; rfl
         simp only [method_specs_simp,seval,encGr,kS,wV,wRow]
         have hE : strE h.stream g e = true:=by unfold strE; rw [← hpe,hA2,hB]; rfl
         have hae2 : ∀ e' ∈ g.events.take (k + 1),strE h.stream g e' = true:=fun e' he'=>by
          rw [Zf,he,Zh,ZA,Ya] at he'
          rcases he' with he' | rfl
          ·exact hae e' he'
          ·exact hE
         refine SW.seq (CW.sound ?_)
         simp only [method_specs_simp,seval,encGr,kS,wV,wRow,hkr,hpr,hpo]
         refine ⟨by omega,by omega,by omega,by omega,?_⟩
         simp only [method_specs_simp,seval,encGr,kS,wV,wRow,encI]
         cases hP : decide (pe > 0) with
         | true =>
          have hcs : cntE h.stream g (g.events.take (k + 1)) = cntE h.stream g (g.events.take k) + 1:=by
           rw [Zf,he,Zh,cntE_app]
           show _ + ([e].filter _).length = _
           simp only [YE,← hpe,hP,YF,if_true,Wj]
          have w4 : IntKind.i64.wrap ((cntS h.stream (h.rooms.take i) : Int) + (cntE h.stream g (g.events.take k) : Int) + 1) = ((cntS h.stream (h.rooms.take i) + cntE h.stream g (g.events.take (k + 1)) : Nat) : Int):=by rw [wrap_id (by omega) (by omega),hcs]; omega
          refine CW.sound ?_
          simp only [method_specs_simp,seval,encGr,kS,wV,wRow,w4]
          refine CW.sound ?_
          simp only [method_specs_simp,seval,encGr,kS,wV,wRow,w2]
          refine Again.mk (k + 1) [0] ⟨h4,by omega,hae2⟩ (Zc h4 (Zb _)) ?_
          simp only [mvcgen_simp,method_specs_simp,seval,encGr,kS,wV,wRow]
         | false =>
          have hcs : cntE h.stream g (g.events.take (k + 1)) = cntE h.stream g (g.events.take k):=by
           rw [Zf,he,Zh,cntE_app]
           show _ + ([e].filter _).length = _
           simp only [YE,← hpe,hP,YF,Yg,if_false,ZX,Yr]
          refine CW.sound ?_
          simp only [method_specs_simp,seval,encGr,kS,wV,wRow]
          refine CW.sound ?_
          simp only [method_specs_simp,seval,encGr,kS,wV,wRow,w2]
          refine Again.mk (k + 1) [0] ⟨h4,by omega,hae2⟩ (Zc h4 (Zb _)) ?_
          simp only [mvcgen_simp,method_specs_simp,seval,encGr,kS,wV,wRow,hcs]
       ·have hj3 : j = e.prev.length:=by simp only [decide_eq_false_iff_not,Ze,Za] at h5; omega
        have hB : strB h.stream g e = true:=by
         unfold strB
         rw [← hpe,Yt,Zn]
         refine .inr fun p hp=>decide_eq_true (hjl p ?_)
         rw [hj3,Zr]; exact hp
        have hE : strE h.stream g e = true:=by unfold strE; rw [← hpe,hA2,hB]; rfl
        have hae2 : ∀ e' ∈ g.events.take (k + 1),strE h.stream g e' = true:=fun e' he'=>by
         rw [Zf,he,Zh,ZA,Ya] at he'
         rcases he' with he' | rfl
         ·exact hae e' he'
         ·exact hE
        refine SW.seq (CW.sound ?_)
        simp only [method_specs_simp,seval,encGr,kS,wV,wRow,hkr,hpr,hpo]
        refine ⟨by omega,by omega,by omega,by omega,?_⟩
        simp only [method_specs_simp,seval,encGr,kS,wV,wRow,encI]
        cases hP : decide (pe > 0) with
        | true =>
         have hcs : cntE h.stream g (g.events.take (k + 1)) = cntE h.stream g (g.events.take k) + 1:=by
          rw [Zf,he,Zh,cntE_app]
          show _ + ([e].filter _).length = _
          simp only [YE,← hpe,hP,YF,if_true,Wj]
         have w4 : IntKind.i64.wrap ((cntS h.stream (h.rooms.take i) : Int) + (cntE h.stream g (g.events.take k) : Int) + 1) = ((cntS h.stream (h.rooms.take i) + cntE h.stream g (g.events.take (k + 1)) : Nat) : Int):=by rw [wrap_id (by omega) (by omega),hcs]; omega
         refine CW.sound ?_
         simp only [method_specs_simp,seval,encGr,kS,wV,wRow,w4]
         refine CW.sound ?_
         simp only [method_specs_simp,seval,encGr,kS,wV,wRow,w2]
         refine Again.mk (k + 1) [0] ⟨h4,by omega,hae2⟩ (Zc h4 (Zb _)) ?_
         simp only [mvcgen_simp,method_specs_simp,seval,encGr,kS,wV,wRow]
        | false =>
         have hcs : cntE h.stream g (g.events.take (k + 1)) = cntE h.stream g (g.events.take k):=by
          rw [Zf,he,Zh,cntE_app]
          show _ + ([e].filter _).length = _
          simp only [YE,← hpe,hP,YF,Yg,if_false,ZX,Yr]
         refine CW.sound ?_
         simp only [method_specs_simp,seval,encGr,kS,wV,wRow]
         refine CW.sound ?_
         simp only [method_specs_simp,seval,encGr,kS,wV,wRow,w2]
         refine Again.mk (k + 1) [0] ⟨h4,by omega,hae2⟩ (Zc h4 (Zb _)) ?_
         simp only [mvcgen_simp,method_specs_simp,seval,encGr,kS,wV,wRow,hcs]
    ·have hk2 : k = g.events.length:=by simp only [decide_eq_false_iff_not,Ze,Za] at h4; omega
     rw [hk2,Zr] at hae hce ⊢
     have hcs : cntS h.stream (h.rooms.take (i + 1)) = cntS h.stream (h.rooms.take i) + cntE h.stream g g.events:=by
      rw [Zf,hg,Zh,cntS_app]; rfl
     refine CW.sound ?_
     simp only [method_specs_simp,seval,encGr,kS,wV,wRow,w1]
     refine Again.mk (i + 1) [] ⟨h1,by omega,fun g' hg'=>?_⟩ (Zc h1 (Zb _)) ?_
     ·rw [Zf,hg,Zh,ZA,Ya] at hg'
      rcases hg' with hg' | rfl
      ·exact hal g' hg'
      ·exact hae
     ·simp only [mvcgen_simp,method_specs_simp,seval,encGr,kS,wV,wRow,hcs]
  ·have hi3 : i = h.rooms.length:=by simp only [decide_eq_false_iff_not,Ze,Za] at h1; omega
   rw [hi3,Zr] at hal ⊢
   have hS : strS h = true:=by
    unfold strS
    rw [Zn]
    intro g hg
    rw [Zn]
    exact hal g hg
   have hbe : (((cntS h.stream h.rooms : Nat) : Int) == ((h.stream.length : Nat) : Int)) = (cntS h.stream h.rooms == h.stream.length):=by rw [ZE]; simp only [beq_iff_eq]; omega
   rw [hS,ZH,← hbe]
   refine CW.sound ?_
   simp only [method_specs_simp,seval,encGr,kS,wV,wRow]
end
def rightS (h : Hb) : Bool:=decide (h.rooms.length = 3) && (decide (h.stream.length ≤ 120) && (rmOK h.rooms && (ndS h.stream && (strS h && (cntS h.stream h.rooms == h.stream.length)))))
def zW : V:=.fptr [.nil,.nil,.nil,.nil,.nil] 0
def rtR (h : Hb) : V:=if rightS h then .tup [wV h,.bool true] else .tup [zW,.bool false]
theorem rtR_ref (ok : Nat → Prop) (h : Hb) : Ref ok (rtR h):=by
 unfold rtR
 split
 ·exact ⟨wV_ref ok h,trivial,trivial⟩
 ·exact ⟨⟨trivial,trivial,trivial,trivial,trivial,trivial⟩,trivial,trivial⟩
theorem sp_eq (x y : Sp) : (x.room == y.room && x.id == y.id) = (x == y):=by
 obtain ⟨a,b⟩:=x
 obtain ⟨c,d⟩:=y
 rw [ZE]
 simp
section
variable {P : Program} [Is P]
theorem c_l07Right (h : Hb) (hh : HbOK h) : Con P 44 [.agg (encHb h)] (rtR h):=by
 have hs2:=hh.2
 have hbad : rightS h = false → rtR h = .tup [zW,.bool false]:=fun hb=>by unfold rtR; rw [hb]; rfl
 refine Con.ofS (n:=80) (rs:=[.tmp 2,.tmp 3]) (Is.fn Tryz.func44) rfl (Is.call Tryz.call44) Tryz.results44 Tryz.ntmps44 (rtR_ref _ h) ?_
 refine SW.seq (CW.sound ?_)
 simp only [method_specs_simp,seval,encHb,encGr]
 by_cases h3 : h.rooms.length = 3
 ·by_cases h120 : h.stream.length ≤ 120
  ·have e1 : ((h.rooms.length : Int) != 3) = false:=by rw [h3]; rfl
   have e2 : decide ((h.stream.length : Int) > 120) = false:=by simp; omega
   refine SW.seq (CW.sound ?_)
   simp only [method_specs_simp,seval,encHb,encGr,e1,e2]
   refine SW.seq (CW.sound ?_)
   simp only [method_specs_simp,seval,encHb,encGr]
   refine SW.while (A:=Nat) (fun i=>⟨pad 80 [.junk,.ptr 0 0,.junk,.bool false,.int .i64 i],[.box true (encHb h)],[]⟩) (fun i=>h.rooms.length - i) (fun i=>i ≤ h.rooms.length ∧ ∀ j g,j < i → h.rooms[j]? = some g → okRm j g = true) 0 [0] ⟨Zi _,fun j g hj=>absurd hj (YC _)⟩ ?_ ?_
   ·simp only [mvcgen_simp,method_specs_simp,seval,encHb,encGr]
   ·rintro i ⟨hi,hok⟩
    have w1 : IntKind.i64.wrap ((i : Int) + 1) = ((i + 1 : Nat) : Int):=wadd1 i (by omega)
    have hbr : ∀ g,h.rooms[i]? = some g → okRm i g = false → rtR h = .tup [zW,.bool false]:=fun g hg hb=>hbad (by
     unfold rightS
     have : rmOK h.rooms = false:=by
      cases hr : rmOK h.rooms with
      | false=>rfl
      | true=>rw [rmOK_at.1 hr i g hg] at hb; cases hb
     rw [this,ZS,ZZ,ZZ])
    refine SW.seq (CW.sound ?_)
    simp only [method_specs_simp,seval,encHb,encGr]
    refine gB_split (fun h1=>?_) (fun h1=>?_)
    ·simp only [decide_eq_true_eq,Za] at h1
     obtain ⟨g,hg⟩ : ∃ g,h.rooms[i]? = some g:=⟨_,Zd h1⟩
     have hgOK:=hh.1.2 g (Zg hg)
     refine SW.seq (SW.block ?_)
     refine SW.seq (CW.sound ?_)
     simp only [method_specs_simp,seval,encHb,encGr,hg]
     refine ⟨by omega,by omega,?_⟩
     refine clY.con (c_sGraphRight g hgOK) (by simp only [method_specs_simp,encGr]) ?_
     cases hr : Gm.grRight g with
     | false =>
      simp only [method_specs_simp,seval,encHb,encGr]
      refine CW.sound ?_
      simp only [method_specs_simp,seval,encHb,encGr]
      exact (hbr g hg (by unfold okRm; rw [hr]; rfl)).symm
     | true =>
      simp only [method_specs_simp,seval,encHb,encGr,hg,w1]
      refine ⟨by omega,by omega,?_⟩
      by_cases hb : g.room = (i : Int) + 1
      ·have hb2 : (g.room != (i : Int) + 1) = false:=by simp; omega
       rw [hb2]
       refine CW.sound ?_
       simp only [method_specs_simp,seval,encHb,encGr]
       refine CW.sound ?_
       simp only [method_specs_simp,seval,encHb,encGr,w1]
       refine Again.mk (i + 1) [0] ⟨h1,fun j g' hj hg'=>?_⟩ (Zc h1 (Zb _)) ?_
       ·rcases Yq.1 hj with hj | rfl
        ·exact hok j g' hj hg'
        ·rw [hg] at hg'
         injection hg' with hg'
         subst hg'
         unfold okRm
         rw [hr,decide_eq_true hb]; rfl
       ·simp only [mvcgen_simp,method_specs_simp,seval,encHb,encGr]
      ·have hb2 : (g.room != (i : Int) + 1) = true:=by simp; omega
       rw [hb2]
       refine CW.sound ?_
       simp only [method_specs_simp,seval,encHb,encGr]
       exact (hbr g hg (by unfold okRm; rw [hr,decide_eq_false hb]; rfl)).symm
    ·have hi3 : i = h.rooms.length:=by simp only [decide_eq_false_iff_not,Ze,Za] at h1; omega
     have hrm : rmOK h.rooms = true:=rmOK_at.2 fun j g hg=>hok j g (by have:=(Zp.1 hg).1; omega) hg
     clear hok hbr h1 hi w1
     refine SW.seq (CW.sound ?_)
     simp only [method_specs_simp,seval,encHb,encGr]
     refine SW.while (A:=Nat) (fun a=>⟨pad 80 [.junk,.ptr 0 0,.junk,.bool false,.junk,.int .i64 a],[.box true (encHb h)],[]⟩) (fun a=>h.stream.length - a) (fun a=>a ≤ h.stream.length ∧ ∀ j x,j < a → h.stream[j]? = some x → (h.stream.take j).contains x = false) 0 [0] ⟨Zi _,fun j g hj=>absurd hj (YC _)⟩ ?_ ?_
     ·simp only [mvcgen_simp,method_specs_simp,seval,encHb,encGr]
     ·rintro a ⟨ha,hok⟩
      have w1 : IntKind.i64.wrap ((a : Int) + 1) = ((a + 1 : Nat) : Int):=wadd1 a (by omega)
      refine SW.seq (CW.sound ?_)
      simp only [method_specs_simp,seval,encHb,encGr]
      refine gB_split (fun h1=>?_) (fun h1=>?_)
      ·simp only [decide_eq_true_eq,Za] at h1
       obtain ⟨x,hx⟩ : ∃ x,h.stream[a]? = some x:=⟨_,Zd h1⟩
       have hbx : (h.stream.take a).contains x = true → rtR h = .tup [zW,.bool false]:=fun hb=>hbad (by
        unfold rightS
        have : ndS h.stream = false:=by
         cases hr : ndS h.stream with
         | false=>rfl
         | true=>rw [ndS_at.1 hr a x hx] at hb; cases hb
        rw [this,ZS,ZZ,ZZ,ZZ])
       refine SW.seq (SW.block ?_)
       refine SW.seq (CW.sound ?_)
       simp only [method_specs_simp,seval,encHb,encGr]
       refine SW.block ?_
       refine SW.while (A:=Nat) (fun b=>⟨pad 80 [.junk,.ptr 0 0,.junk,.bool false,.junk,.int .i64 a,.int .i64 b],[.box true (encHb h)],[]⟩) (fun b=>a - b) (fun b=>b ≤ a ∧ (h.stream.take b).contains x = false) 0 [0] ⟨Zi _,rfl⟩ ?_ ?_
       ·simp only [mvcgen_simp,method_specs_simp,seval,encHb,encGr]
       ·rintro b ⟨hb,hnb⟩
        have w2 : IntKind.i64.wrap ((b : Int) + 1) = ((b + 1 : Nat) : Int):=wadd1 b (by omega)
        refine SW.seq (CW.sound ?_)
        simp only [method_specs_simp,seval,encHb,encGr]
        refine gB_split (fun h2=>?_) (fun h2=>?_)
        ·simp only [decide_eq_true_eq,Za] at h2
         obtain ⟨y,hy⟩ : ∃ y,h.stream[b]? = some y:=⟨_,Zd (by omega)⟩
         refine SW.seq (SW.block ?_)
         refine CW.sound ?_
         simp only [method_specs_simp,seval,encHb,encGr,hx,hy,encSp]
         refine ⟨by kernel_rfl,by omega,by omega,by omega,by omega,?_⟩
         rw [sp_eq]
         cases hq : x == y with
         | true =>
          simp only [method_specs_simp,seval,encHb,encGr]
          refine (hbx (Zk.2 (Zg (i:=b) ?_))).symm
          rw [Yb h2,hy,eq_of_beq hq]
         | false =>
          have hnx : (h.stream.take (b + 1)).contains x = false:=by
           rw [Zf,hy,Zh,← Yj,Zk,ZA,Ya]
           rintro (q | q)
           ·rw [Zk.2 q] at hnb; cases hnb
           ·rw [q] at hq; simp at hq
          simp only [method_specs_simp,seval,encHb,encGr]
          refine CW.sound ?_
          simp only [method_specs_simp,seval,encHb,encGr,w2]
          refine Again.mk (b + 1) [0] ⟨h2,hnx⟩ (Zc h2 (Zb _)) ?_
          simp only [mvcgen_simp,method_specs_simp,seval,encHb,encGr]
        ·have hb2 : b = a:=by simp only [decide_eq_false_iff_not,Ze,Za] at h2; omega
         rw [hb2] at hnb
         refine CW.sound ?_
         simp only [method_specs_simp,seval,encHb,encGr,w1]
         refine Again.mk (a + 1) [0] ⟨h1,fun j y hj hy=>?_⟩ (Zc h1 (Zb _)) ?_
         ·rcases Yq.1 hj with hj | rfl
          ·exact hok j y hj hy
          ·rw [hx] at hy
           injection hy with hy
           subst hy
           exact hnb
         ·simp only [mvcgen_simp,method_specs_simp,seval,encHb,encGr]
      ·have ha2 : a = h.stream.length:=by simp only [decide_eq_false_iff_not,Ze,Za] at h1; omega
       have hnd : ndS h.stream = true:=ndS_at.2 fun j x hx=>hok j x (by have:=(Zp.1 hx).1; omega) hx
       refine SW.seq (CW.sound ?_)
       simp only [method_specs_simp,seval,encHb,encGr]
       refine clY.con (c_l07All h hh h3 h120 hrm hnd) (by simp only [method_specs_simp,encHb]) ?_
       simp only [method_specs_simp,seval,encHb,encGr]
       refine SW.seq (CW.sound ?_)
       simp only [method_specs_simp,seval,encHb,encGr]
       refine clY.con (c_l07Streamed h hh h3 h120 hrm) ⟨wV_ref _ h,trivial⟩ ?_
       have hri : rightS h = (strS h && (cntS h.stream h.rooms == h.stream.length)):=by
        unfold rightS
        rw [decide_eq_true h3,decide_eq_true h120,hrm,hnd]; rfl
       rw [← hri]
       cases hr : rightS h with
       | false =>
        simp only [method_specs_simp,seval,encHb,encGr]
        exact (hbad hr).symm
       | true =>
        have hrt : rtR h = .tup [wV h,.bool true]:=by unfold rtR; rw [hr]; rfl
        rw [hrt]
        simp only [method_specs_simp,seval,encHb,encGr]
        refine CW.sound ?_
        simp only [method_specs_simp,seval,encHb,encGr]
        exact ⟨wV_ref _ h,rfl⟩
  ·have e2 : decide ((h.stream.length : Int) > 120) = true:=by simp; omega
   have e1 : ((h.rooms.length : Int) != 3) = false:=by rw [h3]; rfl
   have hn:=hbad (by unfold rightS; rw [decide_eq_false h120,ZS,ZZ])
   rw [hn]
   refine SW.seq (CW.sound ?_)
   simp only [method_specs_simp,seval,encHb,encGr,e1,e2]
   rfl
 ·have e1 : ((h.rooms.length : Int) != 3) = true:=by simp; omega
  have hn:=hbad (by unfold rightS; rw [decide_eq_false h3,ZS])
  rw [hn]
  refine SW.seq (CW.sound ?_)
  simp only [method_specs_simp,seval,encHb,encGr,e1]
  rfl
end
def spG (g : Gr) (e : Ev) : Sp:=⟨g.room,e.id⟩
def allS (l : List Gr) : List Sp:=l.flatMap fun g=>g.events.map (spG g)
def accS (l : List Gr) : List Sp:=l.flatMap fun g=>(g.events.filter fun e=>okI g e.id).map (spG g)
def RmG (l : List Gr) : Prop:=∀ (i : Nat) (g : Gr),l[i]? = some g → GG g ∧ g.room = (i : Int) + 1
theorem RmG.of {h : Hb} (hh : HbOK h) (hrm : rmOK h.rooms = true) : RmG h.rooms:=fun i g hg=>by
 have:=rmOK_at.1 hrm i g hg
 unfold okRm at this
 simp only [Zm,decide_eq_true_eq] at this
 exact ⟨⟨hh.1.2 g (Zg hg),this.1⟩,this.2⟩
theorem RmG.same {l : List Gr} (h : RmG l) {g g' : Gr} (hg : g ∈ l) (hg' : g' ∈ l) (hr : g.room = g'.room) : g = g':=by
 obtain ⟨i,hi⟩:=Zx hg
 obtain ⟨j,hj⟩:=Zx hg'
 have h1:=(h i g hi).2
 have h2:=(h j g' hj).2
 have : i = j:=by omega
 subst this
 rw [hi] at hj
 injection hj
theorem RmG.gg {l : List Gr} (h : RmG l) {g : Gr} (hg : g ∈ l) : GG g:=by
 obtain ⟨i,hi⟩:=Zx hg
 exact (h i g hi).1
theorem ev_same {l : List Ev} (h : Gm.Srt l) {e e' : Ev} (he : e ∈ l) (he' : e' ∈ l) (hi : e.id = e'.id) : e = e':=by
 have h1:=at_mem h he
 have h2:=at_mem h he'
 rw [hi,h2] at h1
 injection h1 with h1
 exact h1.symm
theorem mem_allS {l : List Gr} {x : Sp} : x ∈ allS l ↔ ∃ g ∈ l,∃ e ∈ g.events,x = spG g e:=by
 unfold allS
 simp only [List.mem_flatMap,ZI]
 constructor
 ·rintro ⟨g,hg,e,he,rfl⟩; exact ⟨g,hg,e,he,rfl⟩
 ·rintro ⟨g,hg,e,he,rfl⟩; exact ⟨g,hg,e,he,rfl⟩
theorem mem_accS {l : List Gr} {x : Sp} : x ∈ accS l ↔ ∃ g ∈ l,∃ e ∈ g.events,okI g e.id = true ∧ x = spG g e:=by
 unfold accS
 simp only [List.mem_flatMap,ZI,ZK]
 constructor
 ·rintro ⟨g,hg,e,⟨he,ho⟩,rfl⟩; exact ⟨g,hg,e,he,ho,rfl⟩
 ·rintro ⟨g,hg,e,he,ho,rfl⟩; exact ⟨g,hg,e,⟨he,ho⟩,rfl⟩
theorem RmG.pw {l : List Gr} (h : RmG l) : l.Pairwise fun g g'=>g.room ≠ g'.room:=by
 rw [Wl]
 intro i j hi hj hij hr
 have h1:=(h i _ (Zd hi)).2
 have h2:=(h j _ (Zd hj)).2
 omega
theorem evs_nodup {g : Gr} (h : GG g) : (g.events.map (spG g)).Nodup:=by
 unfold List.Nodup
 rw [We]
 exact h.srt.imp fun {a b} hab heq=>by
  injection heq with _ h2
  exact absurd h2 (by have:=hab; omega)
theorem allS_nodup {l : List Gr} (h : RmG l) : (allS l).Nodup:=by
 unfold allS List.Nodup
 rw [Wm]
 refine ⟨fun g hg=>evs_nodup (h.gg hg),h.pw.imp fun {g g'} hr x hx y hy hxy=>?_⟩
 obtain ⟨e,_,rfl⟩:=ZI.1 hx
 obtain ⟨e',_,rfl⟩:=ZI.1 hy
 injection hxy with h1
 exact hr h1
theorem accS_nodup {l : List Gr} (h : RmG l) : (accS l).Nodup:=by
 unfold accS List.Nodup
 rw [Wm]
 refine ⟨fun g hg=>(evs_nodup (h.gg hg)).sublist (List.Sublist.map _ Yf),h.pw.imp fun {g g'} hr x hx y hy hxy=>?_⟩
 obtain ⟨e,_,rfl⟩:=ZI.1 hx
 obtain ⟨e',_,rfl⟩:=ZI.1 hy
 injection hxy with h1
 exact hr h1
theorem accS_len : ∀ l : List Gr,(accS l).length = lefts l
 | []=>rfl
 | g :: l=>by
   have:=accS_len l
   unfold accS at this ⊢
   rw [Wn,ZB,this,Zl,lefts]
   unfold accI
   rw [Zl]
   rfl
theorem posS_pos {s : List Sp} {x : Sp} : decide (posS s x > 0) = s.contains x:=by
 unfold posS
 cases h : s.contains x with
 | false=>rfl
 | true=>rw [if_pos rfl]; exact decide_eq_true (by omega)
theorem posS_zero {s : List Sp} {x : Sp} (h : s.contains x = false) : posS s x = 0:=by unfold posS; rw [h]; rfl
theorem allS_cnt (s : List Sp) : ∀ l : List Gr,((allS l).filter fun x=>s.contains x).length = cntS s l
 | []=>rfl
 | g :: l=>by
   have:=allS_cnt s l
   unfold allS at this ⊢
   rw [Wn,YA,ZB,this,List.filter_map,Zl,cntS]
   unfold cntE
   congr 2
   refine Yz fun e _=>?_
   unfold posE
   rw [posS_pos]; rfl
theorem two_ways {α : Type} [DecidableEq α] {A s : List α} (hA : A.Nodup) (hs : s.Nodup) : (A.filter fun x=>s.contains x).length = (s.filter fun x=>A.contains x).length:=by
 refine List.Perm.length_eq ((YL (hA.sublist Yf) (hs.sublist Yf)).2 fun a=>?_)
 simp only [ZK,Zk]
 exact And.comm
theorem nd_nodup {s : List Sp} (h : ndS s = true) : s.Nodup:=by
 rw [List.nodup_iff_pairwise_ne,Wl]
 intro i j hi hj hij he
 have:=ndS_at.1 h j _ (Zd hj)
 rw [← Yj,Zk] at this
 refine this (Zg (i:=i) ?_)
 rw [Yb hij,Zd hi,he]
theorem posS_at {s : List Sp} (h : ndS s = true) {k : Nat} {x : Sp} (hx : s[k]? = some x) : posS s x = (k : Int) + 1:=by
 have hm:=Zg hx
 have hk:=(Zp.1 hx).1
 unfold posS
 rw [if_pos (Zk.2 hm)]
 have : s.idxOf x = k:=by
  have h1:=Wo hm
  have h2 : s[s.idxOf x]? = some x:=by rw [Zd h1,List.getElem_idxOf h1]
  have hn:=nd_nodup h
  rcases Wc (s.idxOf x) k with hlt | heq | hgt
  ·have:=ndS_at.1 h k x hx
   rw [← Yj,Zk] at this
   exact absurd (Zg (i:=s.idxOf x) (by rw [Yb hlt,h2])) this
  ·exact heq
  ·have:=ndS_at.1 h (s.idxOf x) x h2
   rw [← Yj,Zk] at this
   exact absurd (Zg (i:=k) (by rw [Yb hgt,hx])) this
 rw [this]
theorem posS_take {s : List Sp} (h : ndS s = true) {k : Nat} (hk : k ≤ s.length) {y : Sp} : (s.take k).contains y = decide (0 < posS s y ∧ posS s y ≤ k):=by
 rw [ZE,Zk,decide_eq_true_eq]
 constructor
 ·intro hm
  obtain ⟨j,hj⟩:=Zx hm
  have hjl:=(Zp.1 hj).1
  rw [Zq] at hjl
  rw [Yb (by omega)] at hj
  rw [posS_at h hj]
  omega
 ·rintro ⟨h1,h2⟩
  have hc : s.contains y = true:=by rw [← posS_pos]; exact decide_eq_true h1
  obtain ⟨j,hj⟩:=Zx (Zk.1 hc)
  rw [posS_at h hj] at h2
  exact Zg (i:=j) (by rw [Yb (by omega)]; exact hj)
theorem gAt_of {l : List Gr} {i : Nat} {g : Gr} (hg : l[i]? = some g) : gAt l ((i : Int) + 1) = g:=by
 unfold gAt
 rw [show (((i : Int) + 1) - 1).toNat = i by omega,ZG,hg]; rfl
theorem okSp_acc {l : List Gr} (hl : RmG l) (h3 : l.length = 3) {met : List Sp} {x : Sp} (hx : okSp l met x = true) :
  met.contains x = false ∧ ∃ g ∈ l,∃ e ∈ g.events,okI g e.id = true ∧ x = spG g e ∧ ∀ p ∈ e.prev,okI g p = true → met.contains ⟨g.room,p⟩ = true:=by
 unfold okSp at hx
 simp only [Zm,ZR] at hx
 obtain ⟨hb,hm,hs,ho,ha⟩:=hx
 obtain ⟨b1,b2⟩ : 1 ≤ x.room ∧ x.room ≤ 3:=by unfold Gm.isB at hb; simpa using hb
 obtain ⟨g,hg⟩ : ∃ g,l[(x.room - 1).toNat]? = some g:=⟨_,Zd (by omega)⟩
 have hr:=(hl _ g hg).2
 have hrx : x.room = g.room:=by omega
 have hga : gAt l x.room = g:=by
  have:=gAt_of hg
  rwa [show (((x.room - 1).toNat : Int) + 1) = x.room by omega] at this
 rw [hga] at hs ho ha
 obtain ⟨e,he⟩:=Yy.1 hs
 rw [he,YW] at ha
 have hem:=Yw he
 have hei : e.id = x.id:=by have:=List.find?_some he; simpa using this
 refine ⟨hm,g,Zg hg,e,hem,by rw [hei]; exact ho,?_,fun p hp hop=>?_⟩
 ·obtain ⟨a,b⟩:=x
  simp only at hrx hei
  unfold spG
  rw [hei,hrx]
 ·rw [Ym] at ha
  have:=ha p hp
  rw [hop,ZH,hrx] at this
  simpa using this
theorem filter_all_of_len {α : Type} {p : α → Bool} {l : List α} (h : (l.filter p).length = l.length) : ∀ x ∈ l,p x = true:=by
 have:=YS.1 (List.Sublist.eq_of_length Yf h)
 exact this
theorem strS_at {h : Hb} : strS h = true ↔ ∀ g ∈ h.rooms,∀ e ∈ g.events,strE h.stream g e = true:=by
 unfold strS
 simp only [Zn]
theorem posE_eq (s : List Sp) (g : Gr) (e : Ev) : posE s g e = posS s (spG g e):=rfl
theorem lefts_cnt {s : List Sp} : ∀ {l : List Gr},(∀ g ∈ l,∀ e ∈ g.events,(okI g e.id == decide (posE s g e > 0)) = true) → lefts l = cntS s l
 | [],_=>rfl
 | g :: l,h=>by
   have:=lefts_cnt (s:=s) (l:=l) fun g' hg'=>h g' (ZN _ hg')
   rw [lefts,cntS,this]
   unfold accI cntE
   rw [Zl]
   congr 2
   refine Yz fun e he=>?_
   have:=h g ZD e he
   exact eq_of_beq this
theorem right_go {h : Hb} (hh : HbOK h) (h3 : h.rooms.length = 3) (hrm : rmOK h.rooms = true) (hst : stOK h.rooms h.stream = true) (hl : lefts h.rooms = h.stream.length) : ndS h.stream = true ∧ strS h = true ∧ cntS h.stream h.rooms = h.stream.length:=by
 have hR:=RmG.of hh hrm
 have hk:=stOK_at.1 hst
 have hnd : ndS h.stream = true:=ndS_at.2 fun i x hx=>(okSp_acc hR h3 (hk i x hx)).1
 have hN:=nd_nodup hnd
 have hsub : ∀ x ∈ h.stream,x ∈ accS h.rooms:=fun x hx=>by
  obtain ⟨i,hi⟩:=Zx hx
  obtain ⟨_,g,hg,e,he,ho,rfl,_⟩:=okSp_acc hR h3 (hk i x hi)
  exact mem_accS.2 ⟨g,hg,e,he,ho,rfl⟩
 have hacc : ∀ x ∈ accS h.rooms,h.stream.contains x = true:=by
  refine filter_all_of_len ?_
  rw [two_ways (accS_nodup hR) hN,accS_len,hl]
  congr 1
  exact YS.2 fun x hx=>Zk.2 (hsub x hx)
 have hok : ∀ g ∈ h.rooms,∀ e ∈ g.events,(okI g e.id == decide (posE h.stream g e > 0)) = true:=fun g hg e he=>by
  rw [posE_eq,posS_pos]
  cases ho : okI g e.id with
  | true=>rw [hacc _ (mem_accS.2 ⟨g,hg,e,he,ho,rfl⟩)]; rfl
  | false =>
   cases hc : h.stream.contains (spG g e) with
   | false=>rfl
   | true =>
    obtain ⟨g',hg',e',he',ho',heq⟩:=mem_accS.1 (hsub _ (Zk.1 hc))
    injection heq with q1 q2
    have:=hR.same hg hg' q1
    subst this
    rw [q2,ho'] at ho
    cases ho
 refine ⟨hnd,strS_at.2 fun g hg e he=>?_,?_⟩
 ·unfold strE
  rw [hok g hg e he,ZH]
  unfold strB
  cases hp : decide (posE h.stream g e > 0) with
  | false=>rfl
  | true =>
   rw [Ze,YX,Zn]
   intro p hpm
   rw [decide_eq_true_eq]
   have hc : h.stream.contains (spG g e) = true:=by rw [← posS_pos]; exact hp
   obtain ⟨k,hkx⟩:=Zx (Zk.1 hc)
   have hpos:=posS_at hnd hkx
   rw [posE_eq,hpos]
   obtain ⟨_,g',hg',e',he',ho',heq,hpr⟩:=okSp_acc hR h3 (hk k _ hkx)
   injection heq with q1 q2
   have:=hR.same hg hg' q1
   subst this
   have:=ev_same (hR.gg hg).srt he he' q2
   subst this
   cases hop : okI g p with
   | true =>
    have:=hpr p hpm hop
    rw [posS_take hnd (by have:=(Zp.1 hkx).1; omega),decide_eq_true_eq] at this
    omega
   | false =>
    have hph : Gm.hasId g.events p = true:=by
     have:=(hR.gg hg).ain e he
     unfold Gm.allIn at this
     exact (Zn.1 this) p hpm
    obtain ⟨e2,he2,hei⟩:=Gm.fid_get hph
    have h5:=hok g hg e2 (Zg he2)
    rw [hei,hop,posE_eq] at h5
    have h6 : ¬ (posS h.stream (spG g e2) > 0):=fun q=>by rw [decide_eq_true q] at h5; cases h5
    have : spG g e2 = ⟨g.room,p⟩:=by unfold spG; rw [hei]
    rw [this] at h6
    omega
 ·rw [← lefts_cnt hok,hl]
theorem right_back {h : Hb} (hh : HbOK h) (h3 : h.rooms.length = 3) (hrm : rmOK h.rooms = true) (hnd : ndS h.stream = true) (hs : strS h = true) (hc : cntS h.stream h.rooms = h.stream.length) : stOK h.rooms h.stream = true ∧ lefts h.rooms = h.stream.length:=by
 have hR:=RmG.of hh hrm
 have hs:=strS_at.1 hs
 have hN:=nd_nodup hnd
 have hok : ∀ g ∈ h.rooms,∀ e ∈ g.events,(okI g e.id == decide (posE h.stream g e > 0)) = true:=fun g hg e he=>by
  have:=hs g hg e he
  unfold strE at this
  rw [Zm] at this
  exact this.1
 have hsub : ∀ x ∈ h.stream,(allS h.rooms).contains x = true:=by
  refine filter_all_of_len ?_
  rw [← two_ways (allS_nodup hR) hN,allS_cnt,hc]
 refine ⟨stOK_at.2 fun k x hx=>?_,by rw [lefts_cnt hok,hc]⟩
 have hkl:=(Zp.1 hx).1
 obtain ⟨g,hg,e,he,rfl⟩:=mem_allS.1 (Zk.1 (hsub x (Zg hx)))
 obtain ⟨i,hi⟩:=Zx hg
 have hil:=(Zp.1 hi).1
 have hr:=(hR i g hi).2
 have hpos:=posS_at hnd hx
 have hga : gAt h.rooms g.room = g:=by rw [hr]; exact gAt_of hi
 have h1:=hnd
 have hat:=at_mem (hR.gg hg).srt he
 have hpe : posE h.stream g e = (k : Int) + 1:=hpos
 have hoi : okI g e.id = true:=by
  have:=hok g hg e he
  rw [hpe,decide_eq_true (by omega)] at this
  exact eq_of_beq this
 unfold okSp
 show (Gm.isB g.room 1 3 && (!(h.stream.take k).contains (spG g e) && ((atE (gAt h.rooms g.room).events e.id).isSome && (okI (gAt h.rooms g.room) e.id && !((atE (gAt h.rooms g.room).events e.id).getD zE).prev.any fun id=>okI (gAt h.rooms g.room) id && !(h.stream.take k).contains ⟨g.room,id⟩)))) = true
 have hb : Gm.isB g.room 1 3 = true:=by unfold Gm.isB; simp; omega
 rw [hga,hat,hoi,hb,ndS_at.1 hnd k _ hx,YW]
 have ha : (e.prev.any fun id=>okI g id && !(h.stream.take k).contains ⟨g.room,id⟩) = false:=by
  rw [Ym]
  intro p hpm
  cases hop : okI g p with
  | false=>simp
  | true =>
   have hph : Gm.hasId g.events p = true:=by
    have:=(hR.gg hg).ain e he
    unfold Gm.allIn at this
    exact (Zn.1 this) p hpm
   obtain ⟨e2,he2,hei⟩:=Gm.fid_get hph
   have h5:=hok g hg e2 (Zg he2)
   rw [hei,hop,posE_eq,show spG g e2 = ⟨g.room,p⟩ by unfold spG; rw [hei]] at h5
   have h6 : posS h.stream ⟨g.room,p⟩ > 0:=of_decide_eq_true (eq_of_beq h5).symm
   have h7:=hs g hg e he
   unfold strE strB at h7
   rw [hpe,decide_eq_true (show (k : Int) + 1 > 0 by omega),Zm,Ze,YX,Zn] at h7
   have h8:=of_decide_eq_true (h7.2 p hpm)
   rw [posS_take hnd (by omega),decide_eq_true (show 0 < posS h.stream ⟨g.room,p⟩ ∧ posS h.stream ⟨g.room,p⟩ ≤ k by omega)]
   simp
 rw [ha]; rfl
def rightI (h : Hb) : Bool:=decide (h.rooms.length = 3) && (decide (h.stream.length ≤ 120) && (rmOK h.rooms && (stOK h.rooms h.stream && (lefts h.rooms == h.stream.length))))
theorem right_same {h : Hb} (hh : HbOK h) : rightI h = rightS h:=by
 unfold rightI rightS
 by_cases h3 : h.rooms.length = 3
 ·by_cases h120 : h.stream.length ≤ 120
  ·cases hrm : rmOK h.rooms with
   | false=>rfl
   | true =>
    congr 3
    rw [ZE]
    simp only [Zm,beq_iff_eq]
    constructor
    ·rintro ⟨a,b⟩; exact right_go hh h3 hrm a b
    ·rintro ⟨a,b,c⟩; exact right_back hh h3 hrm a b c
  ·rw [decide_eq_false h120]; rfl
 ·rw [decide_eq_false h3]; rfl
theorem nsR_yes {h : Hb} (hr : rightI h = true) : nsR h = .tup [srvV h,.bool true]:=by
 unfold rightI at hr
 simp only [Zm] at hr
 obtain ⟨a,b,c,d,e⟩:=hr
 unfold nsR
 rw [a,b,c,d,e]; rfl
theorem nsR_no {h : Hb} (hr : rightI h = false) : ∃ v,nsR h = .tup [v,.bool false] ∧ Ref (fun _=>False) v:=by
 unfold nsR
 split
 ·rename_i hc
  simp only [Zm] at hc
  obtain ⟨a,b,c,d⟩:=hc
  unfold rightI at hr
  rw [a,b,c,d,ZH,ZH,ZH,ZH] at hr
  exact ⟨_,by rw [hr],srvV_ref _ h⟩
 ·exact ⟨_,rfl,trivial⟩
theorem right_nd {h : Hb} (hr : rightS h = true) : ndS h.stream = true ∧ h.stream.length ≤ 120 ∧ h.rooms.length = 3 ∧ rmOK h.rooms = true:=by
 unfold rightS at hr
 simp only [Zm,decide_eq_true_eq] at hr
 exact ⟨hr.2.2.2.1,hr.2.1,hr.1,hr.2.2.1⟩
theorem take_snoc_no {s : List Sp} {i : Nat} {x y : Sp} (hn : (s.take i).contains x = false) (hy : s[i]? = some y) (hq : (y == x) = false) : (s.take (i + 1)).contains x = false:=by
 rw [Zf,hy,Zh,← Yj,Zk,ZA,Ya]
 rintro (q | q)
 ·rw [Zk.2 q] at hn; cases hn
 ·rw [q] at hq; simp at hq
def posOf (h : Hb) (x : Sp) : Int:=if rightS h then posS h.stream x else 0
section
variable {P : Program} [Is P]
theorem c_indexS (s : List Sp) (x : Sp) (hnd : ndS s = true) (hl : s.length ≤ 120) : Con P 137 [.sl 2 (s.map encSp),.agg (encSp x)] (.int .i64 (posS s x - 1)):=by
 refine Con.of (n:=19) (rs:=[.tmp 4]) (Is.fn Tryz.func137) rfl (Is.call Tryz.call137) Tryz.results137 Tryz.ntmps137 trivial ?_
 simp only [method_specs_simp,seval,encSp]
 refine SW.while (A:=Nat) (fun i=>⟨pad 19 [.sl 2 (s.map encSp),.junk,.junk,.ptr 0 0,.int .i64 0,.junk,.junk,.int .i64 s.length,.int .i64 i],[.box true (encSp x)],[]⟩) (fun i=>s.length - i) (fun i=>i ≤ s.length ∧ (s.take i).contains x = false) 0 [0] ⟨Zi _,rfl⟩ ?_ ?_
 ·simp only [mvcgen_simp,method_specs_simp,seval,encSp]
 ·rintro i ⟨hi,hn⟩
  have w1 : IntKind.i64.wrap ((i : Int) + 1) = ((i + 1 : Nat) : Int):=wadd1 i (by omega)
  refine CW.sound ?_
  simp only [method_specs_simp,seval,encSp]
  refine gB_split (fun h1=>?_) (fun h1=>?_)
  ·simp only [decide_eq_true_eq,Za] at h1
   obtain ⟨y,hy⟩ : ∃ y,s[i]? = some y:=⟨_,Zd h1⟩
   simp only [method_specs_simp,seval,encSp,hy]
   refine ⟨by kernel_rfl,by omega,by omega,?_⟩
   rw [sp_eq]
   cases hq : x == y with
   | true =>
    have:=eq_of_beq hq
    subst this
    rw [posS_at hnd hy]
    simp only [method_specs_simp,seval,encSp]
    omega
   | false =>
    have hq2 : (y == x) = false:=by rw [beq_eq_false_iff_ne] at hq ⊢; exact fun q=>hq q.symm
    simp only [method_specs_simp,seval,encSp]
    refine Again.mk (i + 1) [0] ⟨h1,take_snoc_no hn hy hq2⟩ (Zc h1 (Zb _)) ?_
    simp only [mvcgen_simp,method_specs_simp,seval,encSp,w1]
  ·have hi2 : i = s.length:=by simp only [decide_eq_false_iff_not,Ze,Za] at h1; omega
   rw [hi2,Zr] at hn
   rw [posS_zero hn]
   simp only [method_specs_simp,seval,encSp]
theorem posS_le (s : List Sp) (x : Sp) : 0 ≤ posS s x ∧ posS s x ≤ s.length:=by
 unfold posS
 cases hc : s.contains x with
 | false=>rw [if_neg (by decide)]; omega
 | true =>
  rw [if_pos rfl]
  have:=Wo (Zk.1 hc)
  omega
theorem c_spos (h : Hb) (x : Sp) (hr : rightS h = true) : Con P 96 [srvV h,.int .i64 x.room,.int .i64 x.id] (.int .i64 (posS h.stream x)):=by
 obtain ⟨hnd,h120,_,_⟩:=right_nd hr
 have hp:=posS_le h.stream x
 have hix:=c_indexS (P:=P) h.stream x hnd h120
 refine Con.of (n:=17) (rs:=[.tmp 6]) (Is.fn Tryz.func96) rfl (Is.call Tryz.call96) Tryz.results96 Tryz.ntmps96 trivial ?_
 simp only [method_specs_simp,seval,srvV,sRow,encSp]
 refine clY.con hix (by simp only [method_specs_simp,encSp]) ?_
 simp only [method_specs_simp,seval,srvV,sRow,encSp]
 rw [wrap_id (by omega) (by omega)]
 omega
end
def hidE (id : Int) (e : Ev) : Bool:=e.kind == 8 && e.key == id
def hidX (g : Gr) (id : Int) (x : Sp) : Bool:=x.room == g.room && hidE id ((atE g.events x.id).getD zE)
def hidI (h : Hb) (g : Gr) (id : Int) : Int:=((h.stream.find? (hidX g id)).map (·.id)).getD 0
theorem find_snoc {α : Type} {p : α → Bool} {l : List α} {k : Nat} {x : α} (hn : (l.take k).find? p = none) (hx : l[k]? = some x) (hp : p x = false) : (l.take (k + 1)).find? p = none:=by
 rw [Zf,hx,Zh,Wp,hn]
 simp [hp]
theorem find_at {α : Type} {p : α → Bool} {l : List α} {k : Nat} {x : α} (hn : (l.take k).find? p = none) (hx : l[k]? = some x) (hp : p x = true) : l.find? p = some x:=by
 have hd : l = l.take k ++ x :: l.drop (k + 1):=by
  rw [← drop_cons hx,YJ]
 rw [hd,Wp,hn]
 simp [hp]
def hidF (s : List Sp) (g : Gr) (id : Int) (b : Int × Int) (e : Ev) : Int × Int:=if hidE id e && (decide (posE s g e > 0) && (b.1 == 0 || decide (posE s g e < b.2))) then (e.id,posE s g e) else b
def hidS (s : List Sp) (g : Gr) (id : Int) (l : List Ev) : Int × Int:=l.foldl (hidF s g id) (0,0)
theorem hidS_snoc {s : List Sp} {g : Gr} {id : Int} {l : List Ev} {k : Nat} {e : Ev} (he : l[k]? = some e) : hidS s g id (l.take (k + 1)) = hidF s g id (hidS s g id (l.take k)) e:=by
 rw [Zf,he,Zh]
 unfold hidS
 rw [Ye]; rfl
section
variable {P : Program} [Is P]
theorem c_shidden (h : Hb) (hh : HbOK h) (hr : rightS h = true) (g : Gr) (id : Int) (hg : g ∈ h.rooms) : Con P 101 [srvV h,.int .i64 g.room,.int .i64 id] (.int .i64 (hidI h g id)):=by
 obtain ⟨hnd,h120,h3,hrm⟩:=right_nd hr
 have hR:=RmG.of hh hrm
 have hG:=hR.gg hg
 obtain ⟨i0,hi0⟩:=Zx hg
 have hi0l:=(Zp.1 hi0).1
 have hgr:=(hR i0 g hi0).2
 have hsrm : Con P 78 [srvV h,.int .i64 g.room] (hF g (hsG g)):=c_sroom h.rooms g.room g _ _ (by omega) (by rw [show (g.room - 1).toNat = i0 by omega]; exact hi0) (by omega)
 refine Con.ofS (n:=49) (rs:=[.tmp 6]) (Is.fn Tryz.func101) rfl (Is.call Tryz.call101) Tryz.results101 Tryz.ntmps101 trivial ?_
 refine SW.seq (CW.sound ?_)
 simp only [method_specs_simp,seval,encSp]
 refine SW.seq (CW.sound ?_)
 simp only [method_specs_simp,seval,encSp,srvV,sRow]
 refine SW.while (A:=Nat) (fun k=>⟨pad 49 [srvV h,.int .i64 g.room,.int .i64 id,.junk,.junk,.junk,.int .i64 0,.junk,.junk,.junk,.junk,.junk,.junk,.junk,.junk,.sl 2 (h.stream.map encSp),.int .i64 h.stream.length,.int .i64 k],[],[]⟩) (fun k=>h.stream.length - k) (fun k=>k ≤ h.stream.length ∧ (h.stream.take k).find? (hidX g id) = none) 0 [] ⟨Zi _,rfl⟩ ?_ ?_
 ·simp only [mvcgen_simp,method_specs_simp,seval,encSp,srvV,sRow]
 ·rintro k ⟨hk,hn⟩
  have w1 : IntKind.i64.wrap ((k : Int) + 1) = ((k + 1 : Nat) : Int):=wadd1 k (by omega)
  refine SW.seq (CW.sound ?_)
  simp only [method_specs_simp,seval,encSp]
  refine SW.seq (CW.sound ?_)
  simp only [method_specs_simp,seval,encSp]
  refine gB_split (fun h1=>?_) (fun h1=>?_)
  ·simp only [decide_eq_true_eq,Za] at h1
   obtain ⟨x,hx⟩ : ∃ x,h.stream[k]? = some x:=⟨_,Zd h1⟩
   refine SW.seq (SW.block ?_)
   refine SW.seq (CW.sound ?_)
   simp only [method_specs_simp,seval,encSp,hx]
   refine ⟨by omega,by omega,?_⟩
   refine SW.seq (CW.sound ?_)
   simp only [method_specs_simp,seval,encSp]
   cases hrx : x.room == g.room with
   | false =>
    have hrx2 : (x.room != g.room) = true:=by unfold bne; rw [hrx]; rfl
    have hp : hidX g id x = false:=by unfold hidX; rw [hrx]; rfl
    simp only [method_specs_simp,seval,encSp,hrx2]
    refine CW.sound ?_
    simp only [method_specs_simp,seval,encSp,w1]
    refine Again.mk (k + 1) [] ⟨h1,find_snoc hn hx hp⟩ (Zc h1 (Zb _)) ?_
    simp only [mvcgen_simp,method_specs_simp,seval,encSp]
   | true =>
    have hrx2 : (x.room != g.room) = false:=by unfold bne; rw [hrx]; rfl
    simp only [method_specs_simp,seval,encSp,hrx2]
    refine SW.seq (CW.sound ?_)
    simp only [method_specs_simp,seval,encSp]
    refine ⟨by kernel_rfl,?_⟩
    refine clY.con hsrm ⟨srvV_ref _ h,trivial,trivial⟩ ?_
    simp only [method_specs_simp,seval,encSp,hF]
    refine clY.con (c_at g x.id hG.hx hG.srt) (by simp only [method_specs_simp,encGr]) ?_
    obtain ⟨e,he⟩ : ∃ e,e = (atE g.events x.id).getD zE:=⟨_,rfl⟩
    have hpe : hidX g id x = hidE id e:=by unfold hidX; rw [hrx,← he]; rfl
    rw [← he]
    simp only [method_specs_simp,seval,encSp,encEv]
    refine SW.seq (CW.sound ?_)
    simp only [method_specs_simp,seval,encSp]
    cases hk8 : e.kind == 8 with
    | false =>
     have hp : hidX g id x = false:=by rw [hpe]; unfold hidE; rw [hk8]; rfl
     simp only [method_specs_simp,seval,encSp]
     refine CW.sound ?_
     simp only [method_specs_simp,seval,encSp]
     refine CW.sound ?_
     simp only [method_specs_simp,seval,encSp,w1]
     refine Again.mk (k + 1) [] ⟨h1,find_snoc hn hx hp⟩ (Zc h1 (Zb _)) ?_
     simp only [mvcgen_simp,method_specs_simp,seval,encSp]
    | true =>
     simp only [method_specs_simp,seval,encSp]
     cases hky : e.key == id with
     | false =>
      have hp : hidX g id x = false:=by rw [hpe]; unfold hidE; rw [hk8,hky]; rfl
      refine CW.sound ?_
      simp only [method_specs_simp,seval,encSp]
      refine CW.sound ?_
      simp only [method_specs_simp,seval,encSp,w1]
      refine Again.mk (k + 1) [] ⟨h1,find_snoc hn hx hp⟩ (Zc h1 (Zb _)) ?_
      simp only [mvcgen_simp,method_specs_simp,seval,encSp]
     | true =>
      have hp : hidX g id x = true:=by rw [hpe]; unfold hidE; rw [hk8,hky]; rfl
      have hv : hidI h g id = x.id:=by unfold hidI; rw [find_at hn hx hp]; rfl
      rw [hv]
      refine CW.sound ?_
      simp only [method_specs_simp,seval,encSp]
  ·have hk2 : k = h.stream.length:=by simp only [decide_eq_false_iff_not,Ze,Za] at h1; omega
   rw [hk2,Zr] at hn
   have hv : hidI h g id = 0:=by unfold hidI; rw [hn]; rfl
   rw [hv]
   refine CW.sound ?_
   simp only [method_specs_simp,seval,encSp]
theorem c_l08Hidden (h : Hb) (hh : HbOK h) (hr : rightS h = true) (g : Gr) (id : Int) (hg : g ∈ h.rooms) : Con P 99 [wV h,.int .i64 g.room,.int .i64 id] (.int .i64 (hidS h.stream g id g.events).1):=by
 obtain ⟨hnd,h120,h3,hrm⟩:=right_nd hr
 have hR:=RmG.of hh hrm
 have hG:=hR.gg hg
 have h60:=hG.n
 obtain ⟨i0,hi0⟩:=Zx hg
 have hi0l:=(Zp.1 hi0).1
 have hgr:=(hR i0 g hi0).2
 have hgb : g.room = (i0 : Int) + 1:=hgr
 have w0 : IntKind.i64.wrap (g.room - 1) = (i0 : Int):=by rw [wrap_id (by omega) (by omega)]; omega
 have hpr : h.rooms[i0]?.map (pRow1 h.stream) = some [V.sl 1 ((posL h.stream g).map encI)]:=by rw [hi0]; rfl
 have hpll : (posL h.stream g).length = g.events.length:=posL_len _ _
 refine Con.ofS (n:=77) (rs:=[.tmp 6]) (Is.fn Tryz.func99) rfl (Is.call Tryz.call99) Tryz.results99 Tryz.ntmps99 trivial ?_
 refine SW.seq (CW.sound ?_)
 simp only [method_specs_simp,seval,encGr,wV,wRow]
 refine SW.seq (CW.sound ?_)
 simp only [method_specs_simp,seval,encGr,wV,wRow]
 refine SW.seq (CW.sound ?_)
 simp only [method_specs_simp,seval,encGr,wV,wRow]
 refine SW.while (A:=Nat) (fun k=>⟨pad 77 [wV h,.int .i64 g.room,.int .i64 id,.junk,.junk,.junk,.int .i64 0,.int .i64 (hidS h.stream g id (g.events.take k)).1,.int .i64 (hidS h.stream g id (g.events.take k)).2,.int .i64 k],[],[]⟩) (fun k=>g.events.length - k) (fun k=>k ≤ g.events.length) 0 [] (Zi _) ?_ ?_
 ·have z : hidS h.stream g id (g.events.take 0) = (0,0):=rfl
  rw [z]
  simp only [mvcgen_simp,method_specs_simp,seval,encGr,wV,wRow]
 ·intro k hk
  have w1 : IntKind.i64.wrap ((k : Int) + 1) = ((k + 1 : Nat) : Int):=wadd1 k (by omega)
  obtain ⟨B,hB⟩ : ∃ B,B = hidS h.stream g id (g.events.take k):=⟨_,rfl⟩
  refine SW.seq (CW.sound ?_)
  simp only [method_specs_simp,seval,encGr,wV,wRow,w0,hi0]
  refine ⟨by omega,by omega,?_⟩
  refine gB_split (fun h1=>?_) (fun h1=>?_)
  ·simp only [decide_eq_true_eq,Za] at h1
   obtain ⟨e,he⟩ : ∃ e,g.events[k]? = some e:=⟨_,Zd h1⟩
   have hpo : (posL h.stream g)[k]? = some (posE h.stream g e):=posL_get _ he
   have hnx:=hidS_snoc (s:=h.stream) (g:=g) (id:=id) he
   rw [← hB] at hnx ⊢
   refine SW.seq (SW.block ?_)
   refine SW.seq (CW.sound ?_)
   simp only [method_specs_simp,seval,encGr,wV,wRow,w0,hi0,he,encEv]
   refine ⟨by omega,by omega,by omega,by omega,?_⟩
   refine SW.seq (CW.sound ?_)
   simp only [method_specs_simp,seval,encGr,wV,wRow,w0,hpr,hpo,encI]
   refine ⟨by omega,by omega,by omega,by omega,?_⟩
   refine SW.seq (CW.sound ?_)
   simp only [method_specs_simp,seval,encGr,wV,wRow]
   cases c1 : e.kind == 8 with
   | false =>
    have hnx2 : hidS h.stream g id (g.events.take (k + 1)) = B:=by rw [hnx]; unfold hidF; rw [if_neg]; simp [hidE,c1]
    simp only [method_specs_simp,seval,encGr,wV,wRow]
    refine CW.sound ?_
    simp only [method_specs_simp,seval,encGr,wV,wRow]
    refine CW.sound ?_
    simp only [method_specs_simp,seval,encGr,wV,wRow,w1]
    refine Again.mk (k + 1) [] h1 (Zc h1 (Zb _)) ?_
    rw [hnx2]
    simp only [mvcgen_simp,method_specs_simp,seval,encGr,wV,wRow]
   | true =>
    simp only [method_specs_simp,seval,encGr,wV,wRow]
    cases c2 : e.key == id with
    | false =>
     have hnx2 : hidS h.stream g id (g.events.take (k + 1)) = B:=by rw [hnx]; unfold hidF; rw [if_neg]; simp [hidE,c1,c2]
     refine CW.sound ?_
     simp only [method_specs_simp,seval,encGr,wV,wRow]
     refine CW.sound ?_
     simp only [method_specs_simp,seval,encGr,wV,wRow,w1]
     refine Again.mk (k + 1) [] h1 (Zc h1 (Zb _)) ?_
     rw [hnx2]
     simp only [mvcgen_simp,method_specs_simp,seval,encGr,wV,wRow]
    | true =>
     simp only [method_specs_simp,seval,encGr,wV,wRow]
     cases c3 : decide (posE h.stream g e > 0) with
     | false =>
      have hnx2 : hidS h.stream g id (g.events.take (k + 1)) = B:=by rw [hnx]; unfold hidF; rw [if_neg]; simp [hidE,c1,c2,c3]
      refine CW.sound ?_
      simp only [method_specs_simp,seval,encGr,wV,wRow]
      refine CW.sound ?_
      simp only [method_specs_simp,seval,encGr,wV,wRow,w1]
      refine Again.mk (k + 1) [] h1 (Zc h1 (Zb _)) ?_
      rw [hnx2]
      simp only [mvcgen_simp,method_specs_simp,seval,encGr,wV,wRow]
     | true =>
      simp only [method_specs_simp,seval,encGr,wV,wRow]
      cases c4 : B.1 == 0 with
      | true =>
       have hnx2 : hidS h.stream g id (g.events.take (k + 1)) = (e.id,posE h.stream g e):=by rw [hnx]; unfold hidF; rw [if_pos]; simp [hidE,c1,c2,c3,c4]
       refine CW.sound ?_
       simp only [method_specs_simp,seval,encGr,wV,wRow]
       refine CW.sound ?_
       simp only [method_specs_simp,seval,encGr,wV,wRow,w1]
       refine Again.mk (k + 1) [] h1 (Zc h1 (Zb _)) ?_
       rw [hnx2]
       simp only [mvcgen_simp,method_specs_simp,seval,encGr,wV,wRow]
      | false =>
       simp only [method_specs_simp,seval,encGr,wV,wRow]
       cases c5 : decide (posE h.stream g e < B.2) with
       | true =>
        have hnx2 : hidS h.stream g id (g.events.take (k + 1)) = (e.id,posE h.stream g e):=by rw [hnx]; unfold hidF; rw [if_pos]; simp [hidE,c1,c2,c3,c5]
        refine CW.sound ?_
        simp only [method_specs_simp,seval,encGr,wV,wRow]
        refine CW.sound ?_
        simp only [method_specs_simp,seval,encGr,wV,wRow,w1]
        refine Again.mk (k + 1) [] h1 (Zc h1 (Zb _)) ?_
        rw [hnx2]
        simp only [mvcgen_simp,method_specs_simp,seval,encGr,wV,wRow]
       | false =>
        have hnx2 : hidS h.stream g id (g.events.take (k + 1)) = B:=by rw [hnx]; unfold hidF; rw [if_neg]; simp [hidE,c1,c2,c3,c4,c5]
        refine CW.sound ?_
        simp only [method_specs_simp,seval,encGr,wV,wRow]
        refine CW.sound ?_
        simp only [method_specs_simp,seval,encGr,wV,wRow,w1]
        refine Again.mk (k + 1) [] h1 (Zc h1 (Zb _)) ?_
        rw [hnx2]
        simp only [mvcgen_simp,method_specs_simp,seval,encGr,wV,wRow]
  ·have hk2 : k = g.events.length:=by simp only [decide_eq_false_iff_not,Ze,Za] at h1; omega
   rw [hk2,Zr]
   refine CW.sound ?_
   simp only [method_specs_simp,seval,encGr,wV,wRow]
end
def candE (s : List Sp) (g : Gr) (id : Int) (e : Ev) : Prop:=hidE id e = true ∧ posE s g e > 0
theorem hidS_inv (s : List Sp) (g : Gr) (id : Int) (h0 : ∀ e ∈ g.events,e.id ≠ 0) : ∀ k,k ≤ g.events.length →
  (hidS s g id (g.events.take k) = (0,0) ∧ ∀ e ∈ g.events.take k,¬ candE s g id e) ∨
  ∃ e ∈ g.events.take k,candE s g id e ∧ hidS s g id (g.events.take k) = (e.id,posE s g e) ∧ ∀ e' ∈ g.events.take k,candE s g id e' → posE s g e ≤ posE s g e'
 | 0,_=>.inl ⟨rfl,fun e he=>absurd he YD⟩
 | k + 1,hk=>by
   obtain ⟨y,hy⟩ : ∃ y,g.events[k]? = some y:=⟨_,Zd (by omega)⟩
   have hym:=Zg hy
   have ht : g.events.take (k + 1) = g.events.take k ++ [y]:=by rw [Zf,hy]; rfl
   rw [hidS_snoc hy,ht]
   simp only [ZA,Ya]
   rcases hidS_inv s g id h0 k (by omega) with ⟨h1,h2⟩ | ⟨e,he,hc,h1,h2⟩
   ·rw [h1]
    by_cases hcy : candE s g id y
    ·refine .inr ⟨y,.inr rfl,hcy,?_,?_⟩
     ·unfold hidF
      rw [if_pos]
      simp [hcy.1,decide_eq_true hcy.2]
     ·rintro e' (he' | rfl) hc'
      ·exact absurd hc' (h2 e' he')
      ·exact Yp _
    ·refine .inl ⟨?_,?_⟩
     ·unfold hidF
      rw [if_neg]
      intro q
      simp only [Zm,decide_eq_true_eq] at q
      exact hcy ⟨q.1,q.2.1⟩
     ·rintro e' (he' | rfl)
      ·exact h2 e' he'
      ·exact hcy
   ·have hne : (e.id == 0) = false:=by
     rw [beq_eq_false_iff_ne]
     exact h0 e (Yx he)
    rw [h1]
    by_cases hcy : candE s g id y ∧ posE s g y < posE s g e
    ·refine .inr ⟨y,.inr rfl,hcy.1,?_,?_⟩
     ·unfold hidF
      rw [if_pos]
      simp [hcy.1.1,decide_eq_true hcy.1.2,decide_eq_true hcy.2]
     ·rintro e' (he' | rfl) hc'
      ·have:=h2 e' he' hc'
       omega
      ·exact Yp _
    ·refine .inr ⟨e,.inl he,hc,?_,?_⟩
     ·unfold hidF
      rw [if_neg]
      intro q
      simp only [Zm,Yt,decide_eq_true_eq,hne,Yg,false_or] at q
      exact hcy ⟨⟨q.1,q.2.1⟩,q.2.2⟩
     ·rintro e' (he' | rfl) hc'
      ·exact h2 e' he' hc'
      ·exact Int.not_lt.1 fun q=>hcy ⟨hc',q⟩
theorem hid_same {h : Hb} (hh : HbOK h) (hr : rightS h = true) {g : Gr} (hg : g ∈ h.rooms) (id : Int) : (hidS h.stream g id g.events).1 = hidI h g id:=by
 obtain ⟨hnd,h120,h3,hrm⟩:=right_nd hr
 have hR:=RmG.of hh hrm
 have hG:=hR.gg hg
 have h0 : ∀ e ∈ g.events,e.id ≠ 0:=fun e he q=>by
  have:=hG.ev e he
  unfold Gm.evRight at this
  simp only [Gm.isB,Zm,decide_eq_true_eq] at this
  omega
 have hat : ∀ e ∈ g.events,hidX g id (spG g e) = hidE id e:=fun e he=>by
  unfold hidX
  show (g.room == g.room && hidE id ((atE g.events e.id).getD zE)) = _
  rw [at_mem hG.srt he]; simp
 have hsub : ∀ x ∈ h.stream,x.room = g.room → ∃ e ∈ g.events,x = spG g e:=fun x hx hxr=>by
  have hri : rightI h = true:=by rw [right_same hh]; exact hr
  unfold rightI at hri
  simp only [Zm] at hri
  obtain ⟨i,hi⟩:=Zx hx
  obtain ⟨_,g',hg',e,he,_,rfl,_⟩:=okSp_acc hR h3 (stOK_at.1 hri.2.2.2.1 i x hi)
  have:=hR.same hg' hg hxr
  subst this
  exact ⟨e,he,rfl⟩
 have hinv:=hidS_inv h.stream g id h0 g.events.length (Zj _)
 rw [Zr] at hinv
 unfold hidI
 rcases hinv with ⟨h1,h2⟩ | ⟨e,he,hc,h1,h2⟩
 ·rw [h1]
  have : h.stream.find? (hidX g id) = none:=by
   rw [Yv]
   intro x hx hp
   have hxr : x.room = g.room:=by unfold hidX at hp; rw [Zm] at hp; exact eq_of_beq hp.1
   obtain ⟨e,he,rfl⟩:=hsub x hx hxr
   rw [hat e he] at hp
   refine h2 e he ⟨hp,?_⟩
   have:=posS_pos (s:=h.stream) (x:=spG g e)
   rw [Zk.2 hx] at this
   exact of_decide_eq_true this
  rw [this]; rfl
 ·rw [h1]
  have hcs : h.stream.contains (spG g e) = true:=by rw [← posS_pos]; exact decide_eq_true hc.2
  obtain ⟨k,hk⟩:=Zx (Zk.1 hcs)
  have hpe : posE h.stream g e = (k : Int) + 1:=posS_at hnd hk
  have hf : h.stream.find? (hidX g id) = some (spG g e):=by
   refine find_at (k:=k) ?_ hk (by rw [hat e he]; exact hc.1)
   rw [Yv]
   intro x hx hp
   obtain ⟨j,hj⟩:=Zx hx
   have hjl:=(Zp.1 hj).1
   rw [Zq] at hjl
   rw [Yb (by omega)] at hj
   have hxr : x.room = g.room:=by unfold hidX at hp; rw [Zm] at hp; exact eq_of_beq hp.1
   obtain ⟨e',he',rfl⟩:=hsub x (Zg hj) hxr
   rw [hat e' he'] at hp
   have hpe' : posE h.stream g e' = (j : Int) + 1:=posS_at hnd hj
   have:=h2 e' he' ⟨hp,by omega⟩
   omega
  rw [hf]; rfl
def hidOf (h : Hb) (room id : Int) : Int:=if rightS h && Gm.isB room 1 3 then hidI h (gAt h.rooms room) id else 0
theorem gAt_in {h : Hb} (hh : HbOK h) (hr : rightS h = true) {room : Int} (hb : Gm.isB room 1 3 = true) : gAt h.rooms room ∈ h.rooms ∧ (gAt h.rooms room).room = room:=by
 obtain ⟨hnd,h120,h3,hrm⟩:=right_nd hr
 have hR:=RmG.of hh hrm
 obtain ⟨b1,b2⟩ : 1 ≤ room ∧ room ≤ 3:=by unfold Gm.isB at hb; simpa using hb
 obtain ⟨g,hg⟩ : ∃ g,h.rooms[(room - 1).toNat]? = some g:=⟨_,Zd (by omega)⟩
 have hga : gAt h.rooms room = g:=by
  have:=gAt_of hg
  rwa [show (((room - 1).toNat : Int) + 1) = room by omega] at this
 rw [hga]
 exact ⟨Zg hg,by have:=(hR _ g hg).2; omega⟩
section
variable {P : Program} [Is P]
theorem c_l08Room (room : Int) : Con P 55 [.int .i64 room] (.bool (Gm.isB room 1 3)):=by
 refine Con.of (n:=5) (rs:=[.tmp 2]) (Is.fn Tryz.func55) rfl (Is.call Tryz.call55) Tryz.results55 Tryz.ntmps55 trivial ?_
 simp only [method_specs_simp,seval]
 refine clY.con (c_l02Is room 1 3) (by simp only [method_specs_simp]) ?_
 simp only [method_specs_simp,seval]
end
def inB (g : Gr) (user : Int) : Bool:=memberE g (curG g) user == 1
def rmsL (l : List Gr) (user : Int) : List Int:=(l.filter fun g=>inB g user).map (·.room)
section
variable {P : Program} [Is P]
def rmOf (h : Hb) (user : Int) : Bool:=rightS h && Gm.isB user 1 6
end
def gLen (g : Gr) : Nat:=g.events.length + 1 + (g.parked.length + 1)
def lenGs : List Gr → Nat
 | []=>0
 | g :: l=>gLen g + lenGs l
def rowsGr : Nat → List Gr → List (List V)
 | _,[]=>[]
 | q,g :: l=>grV q g :: rowsGr (q + gLen g) l
def obGsb : Nat → List Gr → List Ob
 | _,[]=>[]
 | b,g :: l=>obGb b g ++ obGsb (b + gLen g) l
def obGs (b : Nat) (l : List Gr) : List Ob:=.arr true 3 (rowsGr (b + 1) l) :: obGsb (b + 1) l
theorem lenGs_app : ∀ l l' : List Gr,lenGs (l ++ l') = lenGs l + lenGs l'
 | [],l'=>by simp [lenGs]
 | g :: l,l'=>by simp only [ZM,lenGs,lenGs_app l l']; omega
theorem rowsGr_len : ∀ (q : Nat) (l : List Gr),(rowsGr q l).length = l.length
 | _,[]=>rfl
 | q,g :: l=>by simp [rowsGr,rowsGr_len _ l]
theorem rowsGr_app : ∀ (q : Nat) (l l' : List Gr),rowsGr q (l ++ l') = rowsGr q l ++ rowsGr (q + lenGs l) l'
 | _,[],l'=>rfl
 | q,g :: l,l'=>by
   simp only [ZM,rowsGr,rowsGr_app _ l l',lenGs]
   rw [show q + gLen g + lenGs l = q + (gLen g + lenGs l) by omega]
theorem obGsb_len : ∀ (b : Nat) (l : List Gr),(obGsb b l).length = lenGs l
 | _,[]=>rfl
 | b,g :: l=>by rw [obGsb,ZB,obGb_len,obGsb_len _ l]; rfl
theorem obGsb_app : ∀ (b : Nat) (l l' : List Gr),obGsb b (l ++ l') = obGsb b l ++ obGsb (b + lenGs l) l'
 | _,[],l'=>rfl
 | b,g :: l,l'=>by
   simp only [ZM,obGsb,obGsb_app _ l l',lenGs,ZJ]
   rw [show b + gLen g + lenGs l = b + (gLen g + lenGs l) by omega]
theorem obGs_len (b : Nat) (l : List Gr) : (obGs b l).length = lenGs l + 1:=by rw [obGs,ZF,obGsb_len]
theorem rowsGr_ren (b : Nat) : ∀ (q : Nat) (l : List Gr),renss (b + ·) (rowsGr q l) = rowsGr (b + q) l
 | _,[]=>rfl
 | q,g :: l=>by
   simp only [rowsGr,renss,rowsGr_ren b _ l]
   rw [← Ys b q (gLen g)]
   simp only [grV,rens,V.ren,Ys]
theorem obGb_ren (b c : Nat) (g : Gr) : (obGb c g).map (Ob.ren (b + ·)) = obGb (b + c) g:=by
 unfold obGb
 rw [Zu,obEb_ren,obEb_ren,Ys]
theorem obGsb_ren (b : Nat) : ∀ (c : Nat) (l : List Gr),(obGsb c l).map (Ob.ren (b + ·)) = obGsb (b + c) l
 | _,[]=>rfl
 | c,g :: l=>by rw [obGsb,obGsb,Zu,obGb_ren,obGsb_ren b _ l,Ys]
theorem obGs_ren (b c : Nat) (l : List Gr) : (obGs c l).map (Ob.ren (b + ·)) = obGs (b + c) l:=by
 unfold obGs
 rw [ZO,obGsb_ren]
 simp only [Ob.ren,rowsGr_ren]
 rfl
theorem rowsGr_refs {ok : Nat → Prop} : ∀ (q : Nat) (l : List Gr),(∀ i,q ≤ i → i < q + lenGs l → ok i) → Refss ok (rowsGr q l)
 | _,[],_=>trivial
 | q,g :: l,h=>by
   have hg : gLen g = g.events.length + 1 + (g.parked.length + 1):=rfl
   simp only [lenGs] at h
   exact ⟨⟨trivial,h q (Zj _) (by omega),h _ (by omega) (by omega),trivial⟩,rowsGr_refs _ l fun i h1 h2=>h i (by omega) (by omega)⟩
theorem obGb_refs {n b : Nat} (g : Gr) (h : b + gLen g ≤ n) : ∀ ob ∈ obGb b g,ob.refs (· < n):=fun ob ho=>by
 have hg : gLen g = g.events.length + 1 + (g.parked.length + 1):=rfl
 rcases ZA.1 ho with ho | ho
 ·exact obEb_refs _ (by omega) ob ho
 ·exact obEb_refs _ (by omega) ob ho
theorem obGsb_refs {n : Nat} : ∀ (b : Nat) (l : List Gr),b + lenGs l ≤ n → ∀ ob ∈ obGsb b l,ob.refs (· < n)
 | _,[],_,ob,ho=>by simp [obGsb] at ho
 | b,g :: l,h,ob,ho=>by
   simp only [lenGs] at h
   rcases ZA.1 ho with ho | ho
   ·exact obGb_refs g (by omega) ob ho
   ·exact obGsb_refs _ l (by omega) ob ho
theorem obGs_refs {n b : Nat} (l : List Gr) (h : b + 1 + lenGs l ≤ n) : ∀ ob ∈ obGs b l,ob.refs (· < n):=fun ob ho=>by
 rcases Zy.1 ho with rfl | ho
 ·exact rowsGr_refs _ l fun i h1 h2=>by omega
 ·exact obGsb_refs _ l h ob ho
theorem obEb_alive (b : Nat) (l : List Ev) : ∀ ob ∈ obEb b l,ob.alive = true:=fun ob ho=>by
 rcases Zy.1 ho with rfl | ho
 ·rfl
 ·obtain ⟨e,_,rfl⟩:=ZI.1 ho
  rfl
theorem obGsb_alive : ∀ (b : Nat) (l : List Gr),∀ ob ∈ obGsb b l,ob.alive = true
 | _,[],ob,ho=>by simp [obGsb] at ho
 | b,g :: l,ob,ho=>by
   rcases ZA.1 ho with ho | ho
   ·rcases ZA.1 ho with ho | ho
    ·exact obEb_alive _ _ ob ho
    ·exact obEb_alive _ _ ob ho
   ·exact obGsb_alive _ l ob ho
theorem obGs_alive (b : Nat) (l : List Gr) : ∀ ob ∈ obGs b l,ob.alive = true:=fun ob ho=>by
 rcases Zy.1 ho with rfl | ho
 ·rfl
 ·exact obGsb_alive _ l ob ho
theorem obGsb_flat : ∀ (b : Nat) (l : List Gr),∀ ob ∈ obGsb b l,ob.flat
 | _,[],ob,ho=>by simp [obGsb] at ho
 | b,g :: l,ob,ho=>by
   rcases ZA.1 ho with ho | ho
   ·rcases ZA.1 ho with ho | ho
    ·exact obEb_flat _ _ ob ho
    ·exact obEb_flat _ _ ob ho
   ·exact obGsb_flat _ l ob ho
theorem rowsGr_flat : ∀ (q : Nat) (l : List Gr),Flatss (rowsGr q l)
 | _,[]=>trivial
 | q,g :: l=>⟨⟨trivial,trivial,trivial,trivial⟩,rowsGr_flat _ l⟩
theorem obGs_flat (b : Nat) (l : List Gr) : ∀ ob ∈ obGs b l,ob.flat:=fun ob ho=>by
 rcases Zy.1 ho with rfl | ho
 ·exact ⟨rfl,rowsGr_flat _ l⟩
 ·exact obGsb_flat _ l ob ho
def mGrR (k : Int) (g : Gr) : Gr:=⟨k,mEvs (k + 1) g.events,mEvs (k + 1 + wM g.events) g.parked⟩
def wR (g : Gr) : Int:=1 + wM g.events + wM g.parked
def wRs : List Gr → Int
 | []=>0
 | g :: l=>wR g + wRs l
def mGs : Int → List Gr → List Gr
 | _,[]=>[]
 | k,g :: l=>mGrR k g :: mGs (k + wR g) l
theorem wR_nn (g : Gr) : 0 ≤ wR g:=by have:=wM_nn g.events; have:=wM_nn g.parked; unfold wR; omega
theorem wRs_nn : ∀ l : List Gr,0 ≤ wRs l
 | []=>Yp _
 | g :: l=>by have:=wR_nn g; have:=wRs_nn l; unfold wRs; omega
theorem wRs_le : ∀ l : List Gr,wRs l ≤ 8 * (l.length + wGs l)
 | []=>by simp [wRs,wGs]
 | g :: l=>by
   have:=wRs_le l
   have b1:=wM_le g.events
   have b2:=wM_le g.parked
   have hwG : wG g = (g.events.length + wEs g.events) + (g.parked.length + wEs g.parked):=rfl
   simp only [wRs,wR,wGs,ZF]
   omega
theorem mGrR_len (k : Int) (g : Gr) : gLen (mGrR k g) = gLen g:=by simp only [gLen,mGrR,mEvs_len]
theorem mGs_lenGs : ∀ (k : Int) (l : List Gr),lenGs (mGs k l) = lenGs l
 | _,[]=>rfl
 | k,g :: l=>by rw [mGs,lenGs,lenGs,mGrR_len,mGs_lenGs _ l]
def rowsGL (xs : List Gr) (k : Nat) : List (List V):=rowsGr 1 (xs.take k) ++ Zs (xs.length - k) zGr
theorem rowsGL_len {xs : List Gr} {k : Nat} (hk : k ≤ xs.length) : (rowsGL xs k).length = xs.length:=by
 simp [rowsGL,rowsGr_len,Nat.min_eq_left hk]; omega
theorem rowsGL_zero (xs : List Gr) : rowsGL xs 0 = Zs xs.length zGr:=by simp [rowsGL,rowsGr]
theorem rowsGL_all (xs : List Gr) : rowsGL xs xs.length = rowsGr 1 xs:=by simp [rowsGL]
theorem rowsGL_get {xs : List Gr} {k : Nat} (hk : k < xs.length) : (rowsGL xs k).getD k [] = zGr:=by
 unfold rowsGL
 rw [ZG,ZQ (by simp [rowsGr_len]; omega),rowsGr_len,Zq,show k - min k xs.length = 0 by omega,show xs.length - k = (xs.length - (k + 1)) + 1 by omega,Yk]
 rfl
theorem rowsGL_set {xs : List Gr} {k : Nat} {x : Gr} (hx : xs[k]? = some x) : (rowsGL xs k).set k (grV (1 + lenGs (xs.take k)) x) = rowsGL xs (k + 1):=by
 have hk:=(Zp.1 hx).1
 unfold rowsGL
 rw [YT _ _ (by simp [rowsGr_len]; omega),rowsGr_len,Zq,show k - min k xs.length = 0 by omega,show xs.length - k = (xs.length - (k + 1)) + 1 by omega,Yk,YU,Zf,hx,Zh,rowsGr_app,ZJ]
 simp [rowsGr]
theorem obG_at1 (o : Ob) (L : List Ob) (n b : Nat) (x : Gr) (h : L.length + 1 = n) : (o :: (L ++ obGb b x))[n]? = some (.arr true 9 (rowsEv (b + 1) x.events)):=by
 subst h
 rw [Yl,ZQ (Zj _),ZT]; rfl
theorem obG_at2 (o : Ob) (L : List Ob) (n b : Nat) (x : Gr) (h : L.length + 1 = n) : (o :: (L ++ obGb b x))[n + (x.events.length + 1)]? = some (.arr true 9 (rowsEv (b + (x.events.length + 1) + 1) x.parked)):=by
 subst h
 rw [show L.length + 1 + (x.events.length + 1) = (L.length + (x.events.length + 1)) + 1 by omega,Yl,ZQ (by omega),Nat.add_sub_cancel_left]
 have:=obGb_at x b []
 rwa [Zz] at this
section
variable {P : Program} [Is P]
theorem n_toGraphS (xs : List Gr) (hx : GrsOK xs) : LCon P 38 [.sl 3 (xs.map encGr)] [] (.ar 0 0 xs.length) (obGs 0 xs):=by
 have hx1:=hx.1
 refine LCon.ofJ (n:=23) (rs:=[.tmp 2]) (Is.fn Tryz.func38) rfl (Is.call Tryz.call38) Tryz.results38 Tryz.ntmps38 ?_
 simp only [method_specs_simp,seval]
 refine ⟨by omega,by omega,by omega,?_⟩
 refine SW.whileJ (A:=Nat) (fun k=>⟨pad 23 [.sl 3 (xs.map encGr),.junk,.nil,.ar 0 0 xs.length,.int .i64 k],.arr true 3 (rowsGL xs k) :: obGsb 1 (xs.take k),[]⟩) (fun k=>xs.length - k) (fun k=>k ≤ xs.length) 0 (Zi _) ?_ ?_
 ·have ez : Zs xs.length [V.int .i64 0,.nil,.nil] = rowsGL xs 0:=(rowsGL_zero _).symm
  rw [ez]
  simp only [mvcgen_simp,method_specs_simp,seval]
  rfl
 ·intro k hk
  refine CW.sound ?_
  simp only [method_specs_simp,seval]
  refine gB_split (fun h=>?_) (fun h=>?_)
  ·simp only [decide_eq_true_eq,Za] at h
   have hxk : xs[k]? = some xs[k]:=Zd h
   have hOK:=hx.2 _ (YB h)
   generalize xs[k] = x at hxk hOK
   simp only [ZC,hxk,method_specs_simp,seval]
   refine ⟨by omega,by omega,?_⟩
   have hl : (obGsb 1 (xs.take k)).length = lenGs (xs.take k):=obGsb_len _ _
   refine clY.newD 0 (n_toGraph x hOK) (dcv_zero _ _) (by simp only [method_specs_simp,encGr]) (grV_flat 0 x) (obG_flat x) ?_
   rw [obG_ren,ZF,hl]
   have e0 : lenGs (xs.take k) + 1 = 1 + lenGs (xs.take k):=Nat.add_comm _ _
   simp only [method_specs_simp,seval,grV,e0]
   have e1 : (rowsGL xs k).set k (V.int IntKind.i64 x.room :: V.ar (1 + lenGs (xs.take k)) 0 x.events.length :: V.ar (1 + lenGs (xs.take k) + (x.events.length + 1)) 0 x.parked.length :: ZP 3 ((rowsGL xs k).getD k [])) = rowsGL xs (k + 1):=by
    rw [rowsGL_get h]; exact rowsGL_set hxk
   have hb : (obGsb 1 (xs.take k) ++ obGb (1 + lenGs (xs.take k)) x) = obGsb 1 (xs.take (k + 1)):=by
    rw [Zf,hxk,Zh,obGsb_app]
    simp only [obGsb,Zz]
   have q1:=obG_at1 (.arr true 3 (rowsGL xs k)) (obGsb 1 (xs.take k)) (1 + lenGs (xs.take k)) (1 + lenGs (xs.take k)) x (by rw [hl]; omega)
   have q2:=obG_at2 (.arr true 3 (rowsGL xs k)) (obGsb 1 (xs.take k)) (1 + lenGs (xs.take k)) (1 + lenGs (xs.take k)) x (by rw [hl]; omega)
   refine ⟨by omega,by omega,by rw [rowsGL_len hk]; exact h,by rw [q1,q2]; rfl,?_⟩
   rw [wrap_id (by omega) (by omega)]
   refine AgainJ.mk (k + 1) h (Zc h (Zb _)) ?_
   rw [e1,hb]
   simp only [mvcgen_simp,method_specs_simp,seval]
  ·simp only [decide_eq_false_iff_not,Ze,Za] at h
   have hi : k = xs.length:=by omega
   subst hi
   rw [rowsGL_all,Zt (Zj _)]
   trivial
theorem n_markGraphS (xs : List Gr) (k : Int) (h0 : 0 ≤ k) (h1 : k < 2 ^ 56) (hx : GrsOK xs) (hw : k + wRs xs < 2 ^ 56) : LCon P 53 [.ar 0 0 xs.length,.int .i64 k] (obGs 0 xs) (.int .i64 (k + wRs xs)) (obGs 0 (mGs k xs)):=by
 refine LCon.ofJ (n:=34) (rs:=[.tmp 4]) (Is.fn Tryz.func53) rfl (Is.call Tryz.call53) Tryz.results53 Tryz.ntmps53 ?_
 simp only [method_specs_simp,seval]
 generalize hgg : plc 0 (obGs 0 xs) = gg
 have hx1:=hx.1
 refine SW.whileJ (A:=List Gr × List Gr × Int) (fun a=>⟨pad 34 [.ar 0 0 xs.length,.int .i64 a.2.2,.junk,.junk,.junk,.int .i64 a.1.length],.arr true 3 (rowsGr 1 (a.1 ++ a.2.1)) :: (obGsb 1 a.1 ++ obGsb (1 + lenGs a.1) a.2.1),gg⟩) (fun a=>a.2.1.length)
   (fun a=>a.1.length + a.2.1.length = xs.length ∧ mGs k xs = a.1 ++ mGs a.2.2 a.2.1 ∧ a.2.2 + wRs a.2.1 = k + wRs xs ∧ k ≤ a.2.2 ∧ (∀ g ∈ a.2.1,GrOK g)) ([],xs,k) ⟨YN _,rfl,rfl,Yp _,hx.2⟩ ?_ ?_
 ·simp only [mvcgen_simp,method_specs_simp,seval]
  trivial
 ·rintro ⟨ys,zs,z⟩ ⟨hl,hm,hz,hkz,hok⟩
  simp only at hl hm hz hkz hok
  have hrl : (rowsGr 1 (ys ++ zs)).length = xs.length:=by rw [rowsGr_len,ZB,hl]
  refine CW.sound ?_
  simp only [method_specs_simp,seval,hrl]
  refine gB_split (fun h=>?_) (fun h=>?_)
  ·simp only [decide_eq_true_eq,Za] at h
   cases zs with
   | nil=>simp only [ZX] at hl; omega
   | cons x zs =>
    have hOK:=hok x ZD
    simp only [wRs,ZF] at hz hl
    have nn:=wRs_nn zs
    have n1:=wM_nn x.events
    have n2:=wM_nn x.parked
    have hwr : wR x = 1 + wM x.events + wM x.parked:=rfl
    obtain ⟨b,hb⟩ : ∃ b,b = 1 + lenGs ys:=⟨_,rfl⟩
    have hl1 : ys.length < (rowsGr 1 (ys ++ x :: zs)).length:=by omega
    have eg : (rowsGr 1 (ys ++ x :: zs)).getD ys.length [] = grV b x:=by
     rw [ZG,rowsGr_app,ZQ (by rw [rowsGr_len]; exact Zj _),rowsGr_len,ZT,← hb]; rfl
    have est : (rowsGr 1 (ys ++ x :: zs)).set ys.length (grV b (mGrR z x)) = rowsGr 1 (ys ++ [mGrR z x] ++ zs):=by
     rw [ZJ,rowsGr_app,rowsGr_app,YT _ _ (by rw [rowsGr_len]; exact Zj _),rowsGr_len,ZT,← hb]
     simp only [rowsGr,List.singleton_append,YU,mGrR_len]
    generalize hrr : rowsGr 1 (ys ++ x :: zs) = rr at *
    have w1 : IntKind.i64.wrap (z + 1) = z + 1:=wrap_id (by omega) (by omega)
    have w9 : IntKind.i64.wrap ((ys.length : Int) + 1) = ((ys.length + 1 : Nat) : Int):=by rw [wrap_id (by omega) (by omega)]; rfl
    have hgs : ∀ v : List V,(rr.set ys.length v)[ys.length]? = some v:=fun v=>Yd hl1
    have ho : obGsb 1 ys ++ obGsb b (x :: zs) = obGsb 1 ys ++ obEb b x.events ++ (obEb (b + (x.events.length + 1)) x.parked ++ obGsb (b + gLen x) zs):=by
     simp only [obGsb,obGb,ZJ]
    rw [← hb,ho]
    have hA : ∀ o : Ob,(o :: obGsb 1 ys).length = b:=fun o=>by rw [ZF,obGsb_len]; omega
    simp only [method_specs_simp,seval,w1,eg,grV,List.set_set,getD_set' hl1,List.length_set,hrl,hgs]
    have i2 : ys.length < xs.length:=h
    refine ⟨by omega,by omega,h,by omega,by omega,?_⟩
    have row1 : ∀ (v : List (List V)) (L : List Ob),(Ob.arr true 3 v :: (obGsb 1 ys ++ obEb b x.events ++ L))[b]? = some (.arr true 9 (rowsEv (b + 1) x.events)):=fun v L=>by
     rw [ZJ,← ZM,ZQ (by rw [hA]; exact Zj _),hA,ZT]; rfl
    refine clY.seg (A:=.arr true 3 (rr.set ys.length [V.int .i64 z,V.ar b 0 x.events.length,V.ar (b + (x.events.length + 1)) 0 x.parked.length]) :: obGsb 1 ys) (B:=obE x.events) (B':=obE (mEvs (z + 1) x.events)) (C:=obEb (b + (x.events.length + 1)) x.parked ++ obGsb (b + gLen x) zs) (n_markEventS x.events (z + 1) (by omega) (by omega) hOK.1 (by omega)) ?_ ?_ ?_ ?_ trivial ?_ ?_ ?_ ?_
    ·rw [obE_len,obE_len,mEvs_len]
    ·exact fun ob ho=>⟨obE_refs _ (by rw [obE_len]; omega) ob ho,obE_alive _ ob ho⟩
    ·exact obE_refs _ (by rw [obE_len,mEvs_len]; omega)
    ·rw [obE_len]; exact ⟨by show 0 < _; omega,trivial,trivial⟩
    ·rw [hA,obE_ren]; rfl
    ·simp only [rens,V.ren,hA,Yr,ZY,Zz]
    ·simp only [convs,conv,ZY,Zz,row1]
    rw [hA,obE_ren]
    obtain ⟨z2,hz2⟩ : ∃ z2,z2 = z + 1 + wM x.events:=⟨_,rfl⟩
    rw [← hz2]
    simp only [method_specs_simp,seval,w1,eg,grV,List.set_set,getD_set' hl1,List.length_set,hrl,hgs,ZM]
    have hA2 : ∀ o : Ob,(o :: (obGsb 1 ys ++ obEb b (mEvs (z + 1) x.events))).length = b + (x.events.length + 1):=fun o=>by rw [ZF,ZB,obGsb_len,obEb_len,mEvs_len]; omega
    have row2 : ∀ (v : List (List V)) (L : List Ob),(Ob.arr true 3 v :: (obGsb 1 ys ++ obEb b (mEvs (z + 1) x.events) ++ (obEb (b + (x.events.length + 1)) x.parked ++ L)))[b + (x.events.length + 1)]? = some (.arr true 9 (rowsEv (b + (x.events.length + 1) + 1) x.parked)):=fun v L=>by
     rw [← ZM,ZQ (by rw [hA2]; exact Zj _),hA2,ZT]; rfl
    refine ⟨by omega,by omega,?_⟩
    refine clY.seg (A:=.arr true 3 (rr.set ys.length [V.int .i64 z,V.ar b 0 x.events.length,V.ar (b + (x.events.length + 1)) 0 x.parked.length]) :: (obGsb 1 ys ++ obEb b (mEvs (z + 1) x.events))) (B:=obE x.parked) (B':=obE (mEvs z2 x.parked)) (C:=obGsb (b + gLen x) zs) (n_markEventS x.parked z2 (by omega) (by omega) hOK.2 (by omega)) ?_ ?_ ?_ ?_ trivial ?_ ?_ ?_ ?_
    ·rw [obE_len,obE_len,mEvs_len]
    ·exact fun ob ho=>⟨obE_refs _ (by rw [obE_len]; omega) ob ho,obE_alive _ ob ho⟩
    ·exact obE_refs _ (by rw [obE_len,mEvs_len]; omega)
    ·rw [obE_len]; exact ⟨by show 0 < _; omega,trivial,trivial⟩
    ·rw [hA2,obE_ren]; simp only [ZM,ZJ]
    ·simp only [rens,V.ren,hA2,Yr,ZY,Zz]
    ·simp only [convs,conv,ZY,Zz,row2]
    rw [hA2,obE_ren]
    obtain ⟨z3,hz3⟩ : ∃ z3,z3 = z2 + wM x.parked:=⟨_,rfl⟩
    have hz4 : z3 = z + wR x:=by omega
    have e5 : obGsb 1 ys ++ (obEb b (mEvs (z + 1) x.events) ++ (obEb (b + (x.events.length + 1)) (mEvs z2 x.parked) ++ obGsb (b + gLen x) zs)) = obGsb 1 (ys ++ [mGrR z x]) ++ obGsb (1 + lenGs (ys ++ [mGrR z x])) zs:=by
     rw [obGsb_app,lenGs_app]
     simp only [obGsb,lenGs,obGb,Zz,ZJ,mGrR_len,Yr]
     simp only [mGrR,mEvs_len,← hb,← Ys,hz2]
    have e6 : rr.set ys.length [V.int .i64 z,V.ar b 0 x.events.length,V.ar (b + (x.events.length + 1)) 0 x.parked.length] = rowsGr 1 (ys ++ [mGrR z x] ++ zs):=by
     rw [← est]
     simp only [grV,mGrR,mEvs_len]
    rw [← hz3]
    simp only [method_specs_simp,seval,w9,ZM,ZJ]
    rw [e5,e6]
    refine AgainJ.mk (ys ++ [mGrR z x],zs,z3) ⟨?_,?_,?_,?_,?_⟩ (Zb _) ?_
    ·simp only [ZB,ZF,ZX]; omega
    ·simp only; rw [hm,mGs,ZJ,hz4]; rfl
    ·simp only; omega
    ·simp only; omega
    ·exact fun g hg=>hok g (ZN _ hg)
    ·simp only [ZB,ZF,ZX]
     simp only [mvcgen_simp,method_specs_simp,seval]
  ·simp only [decide_eq_false_iff_not,Ze,Za] at h
   cases zs with
   | cons x zs=>simp only [ZF] at hl; omega
   | nil =>
    simp only [wRs,mGs,Zz] at hz hm
    rw [← hz,hm]
    simp only [Zz,obGsb,obGs,Int.add_zero]
    trivial
end
end Go.Proofs.YtiafnciiieofmaaGreat
end
