/- The abstract machine: drawn regions in which looks at what nobody writes any more may come late. The abstract machine: what an array holds is told anew, where it names what is frozen. Of a new row that is handed back in part, the part alone is told. No conditions. What a graph's parked events wait for: both sides come to one rising list. Conditions: lengths that fit a machine. Spans: comparisons, marks, and what is held against them. No conditions but lengths and bounds of numbers. The spans of rising numbers, and what a graph has: both models, and the law of HaveOf. Conditions: lengths that fit a machine. Closed facts of the whole program that every row asks. No conditions. -/
import Derived.Test.YtdkgiboofhlilaaRows
import Derived.WalkKit
import Derived.ProofKit
import Derived.OpenShut
import Derived.ShutString
import Derived.ChangeOld
import Derived.Below
import Derived.SizedLaws
import Derived.Test.YtdkgiboofhlilaaA4
set_option linter.unusedSimpArgs false
set_option linter.unusedVariables false
set_option maxRecDepth 10000
section
section
namespace Go.Pm
open Go.RowKit
inductive RdB {α : Type} (B : Nat → Prop) : Sem α → Prop
 | pure (a : α) : RdB B (.pure a)
 | load {m : Mode} {a : Addr} {k : Value → Sem α} : B a.block → (∀ v,RdB B (k v)) → RdB B (.load m a k)
 | shape {r : Nat} {k : Option (TypeId × Nat) → Sem α} : B r → (∀ v,RdB B (k v)) → RdB B (.shape r k)
 | program {k : Program → Sem α} : (∀ p,RdB B (k p)) → RdB B (.program k)
 | obj {r : Nat} {k : Obj → Sem α} : B r → (∀ o,RdB B (k o)) → RdB B (.getObj r k)
 | halt (h : Halt) : RdB B (.halt h)
 | never {s : Sem α} (h : ∀ (P : Program) (w : World) (x : α) (w1 : World),s.run P w ≠ .ok x w1) : RdB B s
theorem RdB.bind {α β : Type} {B : Nat → Prop} {s : Sem α} {f : α → Sem β} (hs : RdB B s) (hf : ∀ a,RdB B (f a)) : RdB B (s.bind f):=by
 induction hs with
 | pure a=>exact hf a
 | load hb _ ih=>exact .load hb fun v=>ih v
 | shape hb _ ih=>exact .shape hb fun v=>ih v
 | program _ ih=>exact .program fun v=>ih v
 | obj hb _ ih=>exact .obj hb fun v=>ih v
 | halt h=>exact .halt h
 | @never s h =>
  refine .never fun P w x w1 e=>?_
  have e : (s >>= f).run P w = .ok x w1:=e
  rw [Sem.run_bind] at e
  cases hs : s.run P w with
  | ok y w2=>exact h P w y w2 hs
  | halt y w2=>rw [hs] at e; cases e
def SameB (w w' : World) (b : Nat) : Prop:=w'.heap[b]? = w.heap[b]? ∧ ∃ us e fr,w.heap[b]? = some (.cells us e fr)
theorem RdB.run {α : Type} {B : Nat → Prop} {s : Sem α} (hs : RdB B s) {P : Program} {w w' w1 : World} {x : α} (hk : ∀ b,B b → SameB w w' b) (h : s.run P w = .ok x w1) : w1 = w ∧ s.run P w' = .ok x w':=by
 induction hs with
 | pure a =>
  simp only [Sem.run] at h ⊢
  injection h with h1 h2
  exact ⟨h2.symm,by rw [h1]⟩
 | @load m a k hb _ ih =>
  obtain ⟨e1,us,el,fr,e2⟩:=hk _ hb
  have hc : w'.cell? a = w.cell? a:=by unfold World.cell?; rw [e1]
  simp only [Sem.run] at h ⊢
  rw [hc]
  cases hv : w.cell? a with
  | some v=>rw [hv] at h; exact ih v h
  | none =>
   exfalso
   rw [hv] at h
   simp only at h
   unfold World.farLoad at h
   rw [e2] at h
   cases h
 | @shape r k hb _ ih =>
  simp only [Sem.run] at h ⊢
  have : w'.shape? r = w.shape? r:=by unfold World.shape?; rw [(hk _ hb).1]
  rw [this]
  exact ih _ h
 | @program k _ ih =>
  simp only [Sem.run] at h ⊢
  exact ih _ h
 | @obj r k hb _ ih =>
  simp only [Sem.run] at h ⊢
  rw [(hk _ hb).1]
  split at h
  ·cases h
  ·rename_i o hn ho
   exact ih _ h
  ·cases h
 | halt e=>simp only [Sem.run] at h; cases h
 | never hn=>exact absurd h (hn _ _ _ _)
section
variable {B : Nat → Prop}
theorem rb_program : RdB B program:=.program fun p=>.pure p
theorem rb_typeInfo (t : TypeId) : RdB B (typeInfo t):=rb_program.bind fun p=>by
 split
 ·exact .pure _
 ·exact .halt _
theorem rb_underlying (t : TypeId) : RdB B (underlying t):=rb_program.bind fun p=>by
 split
 ·exact .pure _
 ·exact .halt _
theorem rb_sizeOf (t : TypeId) : RdB B (sizeOf t):=(rb_typeInfo t).bind fun i=>.pure _
theorem rb_isAgg (t : TypeId) : RdB B (isAgg t):=(rb_underlying t).bind fun d=>by
 split <;> exact .pure _
theorem rb_load {a : Addr} (h : B a.block) : RdB B (load a):=.load h fun v=>.pure v
theorem add_block (a : Addr) (n : Nat) : (a.add n).block = a.block:=by
 unfold Addr.add
 split <;> rfl
theorem rb_loadCells {a : Addr} (h : B a.block) : ∀ (n i : Nat) (acc : Array Value),RdB B (loadCellsFrom a i n acc)
 | 0,i,acc=>.pure _
 | n + 1,i,acc=>(rb_load (by rw [add_block]; exact h)).bind fun v=>rb_loadCells h n (i + 1) _
theorem rb_loadVar (t : TypeId) {a : Addr} (h : B a.block) : RdB B (loadVar t a):=(rb_isAgg t).bind fun b=>by
 cases b
 ·exact rb_load h
 ·exact (rb_sizeOf t).bind fun n=>(rb_loadCells h n 0 #[]).bind fun cs=>.pure _
theorem rb_loadAt (t : TypeId) {a : Addr} (h : B a.block) : RdB B (Instr.loadAt t (.pointer (some a))):=by
 show RdB B (loadVar t a)
 exact rb_loadVar t h
theorem rb_noView {a : Addr} (h : B a.block) : RdB B (noView a):=by
 unfold noView
 refine RdB.bind ?_ fun x=>?_
 ·unfold viewAt
  refine RdB.bind (.shape h fun v=>.pure v) fun y=>?_
  split
  ·exact .pure _
  ·show RdB B (Sem.getObj a.block fun o=>(Sem.pure o).bind _)
   refine .obj h fun o=>?_
   simp only [Sem.bind]
   split <;> exact .pure _
 ·split
  ·exact .halt _
  ·exact .pure _
theorem rb_byteOf {a : Addr} (h : B a.block) : RdB B (byteOf a):=by
 unfold byteOf
 split
 ·exact .pure _
 ·refine rb_program.bind fun p=>(rb_noView h).bind fun _=>?_
  refine RdB.bind (.shape h fun v=>.pure v) fun x=>?_
  split
  ·simp only
   split
   ·exact .pure _
   ·split
    ·exact .pure _
    ·exact .halt _
  ·exact .halt _
theorem rb_fieldPlace {a : Addr} (h : B a.block) (f : Field) : RdB B (fieldPlace a f):=by
 unfold fieldPlace
 refine (rb_sizeOf _).bind fun n=>?_
 split
 ·unfold partAt
  exact (rb_byteOf h).bind fun b=>(rb_byteOf (by first | exact h | (rw [add_block]; exact h))).bind fun b2=>.pure _
 ·exact .pure _
theorem rb_fieldAt (s : TypeId) {a : Addr} (h : B a.block) (i : Nat) : RdB B (Instr.fieldAt s (.pointer (some a)) i):=by
 unfold Instr.fieldAt
 refine (rb_underlying s).bind fun d=>?_
 split
 ·split
  ·exact (rb_fieldPlace h _).bind fun a=>.pure _
  ·exact .halt _
 ·exact .halt _
theorem rb_extract (v : Value) (i : Nat) : RdB B (Instr.extract v i):=by
 unfold Instr.extract
 split
 ·split
  ·exact .pure _
  ·exact .halt _
 ·exact .halt _
theorem rb_asIntOf (v : Value) : RdB B (asIntOf v):=by
 unfold asIntOf
 split
 ·exact .pure _
 ·exact .halt _
 ·exact .halt _
theorem rb_sureAddr (v : Value) : RdB B (Instr.sureAddr v):=by
 unfold Instr.sureAddr
 split
 ·exact .pure _
 ·exact .halt _
theorem never_rt {α : Type} (a b : Int) (s : Bool) (c : BoundsCode) (P : Program) (w : World) (r : α) (w1 : World) : (runtimePanic (.bounds a b s c) : Sem α).run P w ≠ .ok r w1:=fun e=>by
 unfold runtimePanic goPanic at e
 rw [Sem.run_bind] at e
 cases hs : Sem.run P program w with
 | ok y w2=>rw [hs] at e; cases e
 | halt y w2=>rw [hs] at e; cases e
theorem never_bounds {α : Type} (k : IntKind) (x y : Int) (c : BoundsCode) : RdB B (boundsPanic (α:=α) k x y c):=.never fun P w r w1 e=>by
 unfold boundsPanic at e
 simp only at e
 split at e
 ·rw [Sem.run_bind] at e
  cases hs : Sem.run P ((fun x => x == 1) <$> choose (.extern "runtime.boundsError.signed" 2)) w with
  | ok y w2=>rw [hs] at e; exact never_rt _ _ _ _ _ _ _ _ e
  | halt y w2=>rw [hs] at e; cases e
 ·rw [Sem.run_bind] at e
  exact never_rt _ _ _ _ _ _ _ _ e
theorem rb_indexAt (t : TypeId) (x i : Value) : RdB B (Instr.indexAt t x i):=by
 unfold Instr.indexAt
 refine (rb_asIntOf _).bind fun ki=>?_
 refine (rb_underlying t).bind fun d=>?_
 split
 ·refine (rb_sureAddr _).bind fun a=>(RdB.pure _).bind fun z=>?_
  obtain ⟨base,len,elem⟩:=z
  refine (rb_underlying t).bind fun d=>?_
  simp only
  cases base with
  | none=>exact never_bounds _ _ _ _
  | some a =>
   simp only
   split
   ·exact (rb_sizeOf _).bind fun n=>.pure _
   ·split <;> (split <;> first | exact .halt _ | exact never_bounds _ _ _ _)
 ·refine (RdB.pure _).bind fun z=>?_
  obtain ⟨base,len,elem⟩:=z
  refine (rb_underlying t).bind fun d=>?_
  simp only
  cases base with
  | none=>exact never_bounds _ _ _ _
  | some a =>
   simp only
   split
   ·exact (rb_sizeOf _).bind fun n=>.pure _
   ·split <;> (split <;> first | exact .halt _ | exact never_bounds _ _ _ _)
 ·exact .halt _
def lookP (B : Nat → Prop) (ev : Operand → Value) : Op → Prop
 | .move _=>True
 | .extract _ _=>True
 | .indexAddr _ _ _=>True
 | .nilCheck x=>∃ a,ev x = .pointer (some a)
 | .fieldAddr _ x _=>∃ a,ev x = .pointer (some a) ∧ B a.block
 | .load _ x=>∃ a,ev x = .pointer (some a) ∧ B a.block
 | _=>False
theorem lookP_run {P : Program} {o : Oper} {ev : Operand → Value} (hk : lookP B ev o.op) {w w1 w' : World} {x : Next} (hw : ∀ b,B b → SameB w w' b) (h : (execOp ev o).run P w = .ok x w1) : ∃ v,x = .value v ∧ w1 = w ∧ (execOp ev o).run P w' = .ok (.value v) w':=by
 have key : ∀ s : Sem Value,RdB B s → ((do pure (.value (← s)) : Sem Next)).run P w = .ok x w1 → ∃ v,x = .value v ∧ w1 = w ∧ ((do pure (.value (← s)) : Sem Next)).run P w' = .ok (.value v) w':=by
  intro s hs h
  have hr : RdB B (do pure (.value (← s)) : Sem Next):=hs.bind fun v=>.pure _
  obtain ⟨h1,h2⟩:=hr.run hw h
  rw [Sem.run_bind] at h
  cases hv : s.run P w with
  | halt e w2=>rw [hv] at h; cases h
  | ok v w2 =>
   rw [hv,Result.andThen_ok] at h
   simp only [Sem.run_pure] at h
   injection h with h3 h4
   subst h3
   exact ⟨v,rfl,h1,h2⟩
 cases hop : o.op <;> rw [hop] at hk <;> first | (cases hk; done) | skip
 ·rename_i y
  simp only [execOp,hop] at h ⊢
  simp only [Sem.run_pure] at h ⊢
  injection h with h1 h2
  exact ⟨_,h1.symm,h2.symm,rfl⟩
 ·rename_i t y
  obtain ⟨a,e,hb⟩:=hk
  simp only [execOp,hop] at h ⊢
  rw [e] at h ⊢
  exact key _ (rb_loadAt _ hb) h
 ·rename_i y
  obtain ⟨a,e⟩:=hk
  simp only [execOp,hop,e] at h ⊢
  simp only [Sem.run_pure] at h ⊢
  injection h with h1 h2
  exact ⟨_,h1.symm,h2.symm,rfl⟩
 ·rename_i t y i
  obtain ⟨a,e,hb⟩:=hk
  simp only [execOp,hop] at h ⊢
  rw [e] at h ⊢
  exact key _ (rb_fieldAt _ hb _) h
 ·simp only [execOp,hop] at h ⊢
  exact key _ (rb_indexAt _ _ _) h
 ·simp only [execOp,hop] at h ⊢
  exact key _ (rb_extract _ _) h
end
def frzX : V → Prop
 | .fptr cs _=>0 < cs.length
 | .sptr sz xs i _=>0 < sz ∧ i < xs.length
 | _=>False
theorem cell_cells {w : World} {a : Addr} {u : Value} (h : w.cell? a = some u) : ∃ us e fr,w.heap[a.block]? = some (.cells us e fr):=by
 unfold World.cell? at h
 cases hb : w.heap[a.block]? with
 | none=>rw [hb] at h; simp at h
 | some o=>cases o <;> rw [hb] at h <;> first | exact ⟨_,_,_,rfl⟩ | simp at h
theorem frz_ptr {c : Cx} {x : V} {v : Value} (h : RV c x v) (hx : frzX x) : ∃ a,v = .pointer (some a) ∧ c.fz a.block ∧ ∃ us e fr,c.w.heap[a.block]? = some (.cells us e fr):=by
 cases x <;> first | exact hx.elim | skip
 ·rename_i sz xs i off
  obtain ⟨h1,h2⟩ : 0 < sz ∧ i < xs.length:=hx
  obtain ⟨b,o,e,hf,hr⟩:=h
  refine ⟨_,e,hf,?_⟩
  obtain ⟨g1,g2⟩:=hr.get i (List.getElem?_eq_getElem h2)
  obtain ⟨u,g3,_⟩:=g2.get 0 (List.getElem?_eq_getElem (by omega))
  have:=cell_cells g3; exact this
 ·rename_i cs off
  obtain ⟨b,e,hf,hr⟩:=h
  refine ⟨_,e,hf,?_⟩
  obtain ⟨u,g3,_⟩:=hr.get 0 (List.getElem?_eq_getElem hx)
  have:=cell_cells g3; exact this
def opX (ev : Operand → V) : Op → Prop
 | .move _=>True
 | .extract _ _=>True
 | .indexAddr _ _ _=>True
 | .nilCheck x=>frzX (ev x)
 | .fieldAddr _ x _=>frzX (ev x)
 | .load _ x=>frzX (ev x)
 | _=>False
def FLi (P : Program) : List Oper → St → Prop
 | [],st=>st.m = []
 | o :: os,st=>opX (St.ev st.t) o.op ∧ T1 P o st (fun st'=>FLi P os st')
def pickM : Option Oper → List Oper → List Oper
 | some o,os=>o :: os
 | none,os=>os
def pickO (os : List Oper) : List Nat → List Oper
 | []=>[]
 | f :: fl=>pickM os[f]? (pickO os fl)
def FL (P : Program) (ops : Array Oper) (fl : List Nat) (t : List V) : Prop:=FLi P (pickO ops.toList fl) ⟨t,[],[]⟩
theorem FLi_m {P : Program} : ∀ (os : List Oper) (st : St),FLi P os st → st.m = []
 | [],_,h=>h
 | o :: os,st,⟨_,h⟩=>by
   obtain ⟨r,new,_,h2⟩:=Q1_sound (o:=o) h
   have:=FLi_m os _ h2
   exact (List.append_eq_nil_iff.1 this).1
section
variable {P : Program} {os : List Oper} {t : List V} {gs : List V} {o : Oper} {m : List Ob} {ops : Array Oper} {fl : List Nat} {ev : Operand → V}
@[method_specs_simp] theorem FLi_cons : FLi P (o :: os) ⟨t,m,gs⟩ = (opX (St.ev t) o.op ∧ T1 P o ⟨t,m,gs⟩ (fun st'=>FLi P os st')):=nr rfl
@[method_specs_simp] theorem FLi_nil : FLi P [] ⟨t,[],gs⟩ = True:=eq_true rfl
@[method_specs_simp] theorem pick_cons {f : Nat} : pickO os (f :: fl) = pickM os[f]? (pickO os fl):=nr rfl
@[method_specs_simp] theorem pick_nil : pickO os [] = []:=nr rfl
@[method_specs_simp] theorem pick_some {o : Oper} : pickM (some o) os = o :: os:=nr rfl
@[method_specs_simp] theorem opX_move {x : Operand} : opX ev (.move x) = True:=nr rfl
end
def fltS (ops : Array Oper) : List Nat → List Nat → Bool
 | _,[]=>true
 | done,f :: fs=>!(fs.contains f) && fltS ops (f :: done) fs && (match ops[f]? with
   | some o=>o.guard.isNone && (o.after.toList.all fun e=>!Region.binds .any e || done.contains e.on) && ((List.range ops.size).all fun j=>Nat.beq j f || done.contains j || (match ops[j]? with
     | some oj=>(oj.after.toList.any fun e=>Region.binds .any e && Nat.beq e.on f) || o.apart ops oj
     | none=>true))
   | none=>false)
section
variable {P : Program} {ops : Array Oper} {K : St → Prop} {w0 : World} {E Zo : Nat → Prop} {gh : List Value} {Q : Exit → Act → World → Prop}
theorem head_held {S : World → Prop} {k : Nat} {st st' : St} {rs : List Res} {fl : List Nat} (A : Any ops fl k) (hS : ∀ st a w,Rel w0 E Zo gh st a w → S w) (hQ : ∀ st a w,K st → Rel w0 E Zo gh st a w → Q .normal a w)
  (hrun : Run P (dsts ops) (ops.toList.take k) st rs st') (htail : RS P (dsts ops) (ops.toList.drop k) st' K) :
  ∀ (fuel : Nat) (F : List Bool) (a : Act) (w : World),F.length = k → left F + (ops.size - k) ≤ fuel → (∀ i,F[i]? = some true → ∀ j ∈ waits ops i,F[j]? = some true) → (∀ f ∈ fl,F[f]? = some true) →
   Part ops k st rs w0 E Zo gh F a w → wpAnyH P .any ops Q S fuel (lay0 ops.size F) a w:=by
 have hlenk : (ops.toList.take k).length = k:=by simp [A.le]
 have hrl : rs.length = k:=by rw [hrun.len,hlenk]
 have htl : ∀ (fuel : Nat) (a : Act) (w : World),ops.size - k ≤ fuel → Rel w0 E Zo gh st' a w → wpAnyH P .any ops Q S fuel (flags ops.size k) a w:=fun fuel a w hfu r =>
  tail_held A hQ (fun i o st K a w _ _ hS1 _ r=>Oper.wp_mono (fun a w h=>⟨(by obtain ⟨st'',_,h2⟩:=h; exact hS _ _ _ h2),h⟩) (S1_sound hS1 w0 E Zo gh a w _ r)) fuel k st' a w (Nat.le_refl _) A.le (by omega) htail (hS _ _ _ r) r
 intro fuel
 induction fuel with
 | zero =>
  intro F a w hF hl hc hfl r
  have h0 : left F = 0:=by omega
  have hall:=left_zero h0
  rw [hF] at hall
  subst hall
  rw [lay0_all A.le]
  refine htl 0 a w (by omega) ?_
  rw [hrun.fin,hlenk]
  exact r
 | succ fuel ih =>
  intro F a w hF hl hc hfl r
  by_cases h0 : left F = 0
  ·have hall:=left_zero h0
   rw [hF] at hall
   subst hall
   rw [lay0_all A.le]
   refine htl (fuel + 1) a w (by omega) ?_
   rw [hrun.fin,hlenk]
   exact r
  ·refine ⟨fun hr=>?_,fun i hi=>?_⟩
   ·exfalso
    refine h0 ?_
    have hsz : (lay0 ops.size F).size = ops.size:=by have:=A.le; simp [lay0]; omega
    have:=ready_some hsz A.early hr
    have hF' : F = List.replicate F.length true:=all_true fun j hj=>by rw [← lay0_get hj]; exact this j (by have:=A.le; omega)
    rw [hF']
    exact left_rep _
   ·obtain ⟨h1,h2,h3⟩:=ready_waits hi
    have hik : i < k:=by
     by_cases hik : i < k
     ·exact hik
     ·exfalso
      refine h0 ?_
      have hw3 : ∀ l ∈ waits ops i,F[l]? = some true:=by
       intro l hl2
       have:=h3 l hl2
       by_cases hlk : l < F.length
       ·rw [Array.getD_eq_getD_getElem?,lay0_get hlk] at this
        cases hb : F[l]? with
        | none=>rw [hb] at this; cases this
        | some b=>rw [hb] at this; simpa using this
       ·exfalso
        rw [Array.getD_eq_getD_getElem?] at this
        unfold lay0 at this
        rw [List.getElem?_toArray,List.getElem?_append_right (by omega),List.getElem?_replicate] at this
        split at this <;> simp at this
      have hanc0 : ∀ {a b : Nat},Anc ops a b → (∀ l ∈ waits ops a,F[l]? = some true) → F[b]? = some true:=by
       intro a b h
       induction h with
       | one h=>exact fun hw=>hw _ h
       | more h _ ih=>exact fun hw=>ih (hc _ (hw _ h))
      have hF' : F = List.replicate F.length true:=all_true fun j hj=>by
       by_cases hjf : j ∈ fl
       ·exact hfl j hjf
       ·exact hanc0 (A.tail i (by omega) h2 j (by omega) hjf) hw3
      rw [hF']
      exact left_rep _
    have hiF : F[i]? = some false:=by
     rw [Array.getD_eq_getD_getElem?,lay0_get (by omega)] at h1
     have hlt : i < F.length:=by omega
     rw [List.getElem?_eq_getElem hlt] at h1 ⊢
     simpa using h1
    have h3' : ∀ j ∈ waits ops i,F[j]? = some true:=by
     intro j hj
     have hj2:=A.early i h2 j hj
     have:=h3 j hj
     rw [Array.getD_eq_getD_getElem?,lay0_get (by omega)] at this
     cases hb : F[j]? with
     | none=>rw [hb] at this; cases this
     | some b=>rw [hb] at this; simpa using this
    rw [lay0_set (by omega)]
    have hnext : ∀ (a' : Act) (w' : World),Part ops k st rs w0 E Zo gh (F.set i true) a' w' → S w' ∧ wpAnyH P .any ops Q S fuel (lay0 ops.size (F.set i true)) a' w':=by
     intro a' w' hp
     refine ⟨hS _ _ _ hp,?_⟩
     refine ih (F.set i true) a' w' (by simpa using hF) (by have:=left_set hiF; omega) ?_ (fun f hf=>?_) hp
     rotate_left
     ·by_cases e : f = i
      ·subst e; rw [List.getElem?_set_self (by omega)]
      ·rw [List.getElem?_set_ne (fun q=>e q.symm)]; exact hfl f hf
     intro j hj l hl
     by_cases e : j = i
     ·subst e
      have hlj:=A.early j h2 l hl
      rw [List.getElem?_set_ne (by omega)]
      exact h3' l hl
     ·rw [List.getElem?_set_ne (fun q=>e q.symm)] at hj
      have:=hc j hj l hl
      by_cases e2 : l = i
      ·subst e2
       rw [List.getElem?_set_self (by omega)]
      ·rw [List.getElem?_set_ne (fun q=>e2 q.symm)]
       exact this
    rcases head_step (Q:=Q) A hrun hF hc r hik h2 hiF h3' hnext with ⟨hw,h⟩ | ⟨hw,h⟩
    ·unfold wpOp
     rw [Array.getElem?_eq_getElem h2]
     simp only
     rw [if_pos hw]
     exact .inl h
    ·unfold wpOp
     rw [Array.getElem?_eq_getElem h2]
     simp only
     rw [if_neg (by rw [hw]; decide)]
     exact h
theorem live_keep {w : World} {Zo : Nat → Prop} {m : List Ob} {β β' : List Lc} (h : (cx w Zo m β).le (cx w Zo m β')) {b : Nat} (k : liveAt m β b) : liveAt m β' b:=by
 obtain ⟨o,ob,l,h1,h2,h3⟩:=k
 have ho:=h.ob o trivial
 have ho : obLe m[o]? β[o]? m[o]? β'[o]?:=ho
 rw [h1,h2] at ho
 cases ob with
 | hole=>simp [Ob.blk] at h3
 | dead=>simp [Ob.blk] at h3
 | box lv cs =>
  rcases ho with ho | ⟨lv',cs',l',e1,e2,e3⟩
  ·cases ho
  ·refine ⟨o,_,l',h1,e2,?_⟩
   cases lv
   ·simp [Ob.blk] at h3
   ·simp only [Ob.blk,Option.some.injEq] at h3 ⊢; rw [e3]; exact h3
 | arr lv sz xs =>
  rcases ho with ho | ⟨lv',xs',e1,e2,e3⟩
  ·cases ho
  ·exact ⟨o,_,l,h1,e2,h3⟩
 | mp lv ks vs =>
  rcases ho with ho | ⟨lv',ks',vs',l',e1,e2,e3⟩
  ·cases ho
  ·refine ⟨o,_,l',h1,e2,?_⟩
   cases lv
   ·simp [Ob.blk] at h3
   ·simp only [Ob.blk,Option.some.injEq] at h3 ⊢; rw [e3]; exact h3
theorem flt_soundK {fl : List Nat} {k : Nat} {st st' : St} {rs : List Res} {wb : World} {β0 : List Lc} (A : Any ops fl k) (hQ : ∀ st2 a w,K st2 → Rel wb (liveAt st.m β0) Zo gh st2 a w → Q .normal a w) (hns : noSel ops = true) (hP : ∀ c a w,¬ Q (.panic c) a w)
  (hrun : Run P (dsts ops) (ops.toList.take k) st rs st') (htail : RS P (dsts ops) (ops.toList.drop k) st' K) :
  ∀ (todo done : List Nat) (fuel : Nat) (F : List Bool) (a : Act) (t : List V) (β : List Lc),fltS ops done todo = true → FL P ops todo t → Mem wb Zo st.m β → (cx wb Zo st.m β0).le (cx wb Zo st.m β) → RVs (cx wb Zo st.m β) t a.tmps.toList →
   (∀ g ∈ done,F[g]? = some true) → (∀ g ∈ done,g < k) → (∀ f ∈ todo,f < k) → F.length = k →
   left F + (ops.size - k) ≤ fuel → (∀ i,F[i]? = some true → ∀ j ∈ waits ops i,F[j]? = some true) →
   (∀ f ∈ todo,F[f]? = some false) → (∀ f ∈ fl,f ∈ todo ∨ F[f]? = some true) → Part ops k st rs wb (liveAt st.m β0) Zo gh F a wb → wpAnyH P .any ops Q (fun w=>Frame (liveAt st.m β0) wb w) fuel (lay0 ops.size F) a wb
 | [],done,fuel,F,a,t,β,_,_,_,_,_,_,_,_,hF,hl,hc,_,hfl,r=>head_held A (fun _ _ _ ⟨_,_,_,h,_⟩=>h) hQ hrun htail fuel F a wb hF hl hc (fun f hf=>(hfl f hf).resolve_left (by simp)) r
 | f :: todo,done,fuel,F,a,t,β,hb,hv,M,hle,ht,hd,hdk,hk,hF,hl,hc,hf,hfl,r=>by
   have hfF:=hf f List.mem_cons_self
   have hfk:=hk f List.mem_cons_self
   have hleft:=left_set hfF
   obtain ⟨fuel,rfl⟩ : ∃ n,fuel = n + 1:=⟨fuel - 1,by omega⟩
   have hsz : f < ops.size:=by have:=A.le; omega
   have ho : ops[f]? = some ops[f]:=Array.getElem?_eq_getElem hsz
   unfold fltS at hb
   unfold FL at hv
   have ho' : ops.toList[f]? = some ops[f]:=by rw [Array.getElem?_toList]; exact ho
   rw [pickO,ho'] at hv
   rw [ho] at hb
   obtain ⟨hv1,hv2⟩:=hv
   have hv2 : Q1 P (ops[f]).op (St.ev t) [] 0 (fun r new=>FLi P (pickO ops.toList todo) ⟨putT t (ops[f]).dst r,[] ++ new,[]⟩):=hv2
   simp only [Bool.and_eq_true,Bool.not_eq_true'] at hb
   obtain ⟨⟨hb1,hb2⟩,⟨hb4,hb5⟩,hb6⟩:=hb
   have hfn : f ∉ todo:=fun h=>by have:=List.contains_iff_mem.2 h; rw [hb1] at this; cases this
   have hg : (ops[f]).guard = none:=by simpa using hb4
   have hw : ∀ j ∈ waits ops f,j ∈ done:=by
    intro j hj
    obtain ⟨e,he,hbe,rfl⟩:=(waits_spec ho).1 hj
    have:=List.all_eq_true.1 hb5 e (Array.mem_toList_iff.2 he)
    rw [hbe] at this
    simpa using this
   have hwant : Region.wanted ops[f] (yielded ops a.tmps) = true:=by unfold Region.wanted; rw [hg]
   have hfz : ∀ b,(cx wb Zo st.m β).fz b → b < wb.heap.size ∧ ¬ liveAt st.m β0 b:=fun b h=>⟨h.1,fun hl=>h.2 (.inr (live_keep hle hl))⟩
   have hlook : lookP (fun b=>(b < wb.heap.size ∧ ¬ liveAt st.m β0 b) ∧ ∃ us e fr,wb.heap[b]? = some (.cells us e fr)) a.eval (ops[f]).op:=by
    cases hop : (ops[f]).op <;> rw [hop] at hv1 <;> first | exact hv1.elim | trivial | skip
    case load u x =>
     obtain ⟨A,e,h1,h2⟩:=frz_ptr (ev_RV ht x) hv1
     exact ⟨A,e,hfz _ h1,h2⟩
    case nilCheck x =>
     obtain ⟨A,e,h1,h2⟩:=frz_ptr (ev_RV ht x) hv1
     exact ⟨A,e⟩
    case fieldAddr u x i =>
     obtain ⟨A,e,h1,h2⟩:=frz_ptr (ev_RV ht x) hv1
     exact ⟨A,e,hfz _ h1,h2⟩
   have hsame : ∀ w',Frame (liveAt st.m β0) wb w' → ∀ b,((b < wb.heap.size ∧ ¬ liveAt st.m β0 b) ∧ ∃ us e fr,wb.heap[b]? = some (.cells us e fr)) → SameB wb w' b:=fun w' hS b h=>⟨hS.block b h.1.1 h.1.2,h.2⟩
   obtain ⟨rv,new,hqs,hv3⟩:=Q1_sound hv2
   have hnew : new = []:=FLi_m _ _ hv3
   subst hnew
   have hwp:=hqs wb Zo st.m β a (fun _ _ _=>False) M (fun o ob h=>by simp at h) (fun x _=>ev_RV ht x) (fun j hj=>by simp at hj)
   unfold Oper.wp at hwp
   obtain ⟨v,hrun1,hyield,hres⟩ : ∃ v,(execOp a.eval ops[f]).run P wb = .ok (.value v) wb ∧ (∀ w',Frame (liveAt st.m β0) wb w' → (execOp a.eval ops[f]).run P w' = .ok (.value v) w') ∧ ∃ β',Mem wb Zo st.m β' ∧ (cx wb Zo st.m β).le (cx wb Zo st.m β') ∧ RVs (cx wb Zo st.m β') (putT t (ops[f]).dst rv) (a.put (ops[f]).dst v).tmps.toList:=by
    cases hr : (execOp a.eval ops[f]).run P wb with
    | ok x w1 =>
     obtain ⟨v,rfl,rfl,h3⟩:=lookP_run hlook (hsame wb (Frame.refl _ _)) hr
     rw [hr] at hwp
     obtain ⟨v',β',e,hG,M',hle',hrv,_⟩:=hwp
     refine ⟨v,rfl,fun w' hS=>?_,β',M',hle',?_⟩
     ·obtain ⟨v2,e2,_,h4⟩:=lookP_run hlook (hsame w' hS) hr
      injection e2 with e2
      subst e2
      exact h4
     ·rw [e]
      exact (ht.mono hle').put hrv _
    | halt e w1 =>
     rw [hr] at hwp
     exfalso
     cases e <;> exact hwp
   obtain ⟨β',M',hle',hvs⟩:=hres
   refine wpAnyH_first (v:=v) ho (fun j o cs b hj=>noSel_out hns hj cs b) (fun c a w h=>(hP c _ _ h).elim) fuel (lay0 ops.size F) a wb (fun j oj hj hne hun hno=>?_) ?_ (.inl ⟨hwant,hyield⟩) (Frame.refl _ _) ?_
   ·have:=List.all_eq_true.1 hb6 j (List.mem_range.2 (Array.getElem?_eq_some_iff.1 hj).1)
    rw [hj] at this
    simp only [Bool.or_eq_true] at this
    rcases this with (h | h) | h | h
    ·exact absurd (Nat.eq_of_beq_eq_true h) hne
    ·exfalso
     have hm : j ∈ done:=by simpa using h
     have hF2:=hd j hm
     rw [Array.getD_eq_getD_getElem?,lay0_get (by have:=hdk j hm; omega),hF2] at hun
     cases hun
    ·obtain ⟨e,he,h2⟩:=List.any_eq_true.1 h
     simp only [Bool.and_eq_true] at h2
     exact absurd (Nat.eq_of_beq_eq_true h2.2) (hno e (Array.mem_toList_iff.1 he) h2.1)
    ·exact h
   ·refine mem_ready.2 ⟨?_,_,ho,fun e he hbe=>?_⟩
    ·rw [Array.getD_eq_getD_getElem?,lay0_get (by omega),hfF]; rfl
    ·have hm : e.on ∈ done:=hw _ ((waits_spec ho).2 ⟨e,he,hbe,rfl⟩)
     rw [Array.getD_eq_getD_getElem?,lay0_get (by have:=hdk _ hm; omega),hd _ hm]; rfl
   ·rw [lay0_set (by omega)]
    have hpart : Part ops k st rs wb (liveAt st.m β0) Zo gh (F.set f true) (a.put (ops[f]).dst v) wb:=by
     rcases head_step (Q:=fun _ _ _=>False) (K':=fun a' w'=>Part ops k st rs wb (liveAt st.m β0) Zo gh (F.set f true) a' w') A hrun hF hc r hfk hsz hfF (fun j hj=>hd j (hw j hj)) (fun _ _ h=>h) with ⟨_,h⟩ | ⟨h,_⟩
     ·unfold Oper.wp at h
      rw [hrun1] at h
      exact h
     ·rw [hwant] at h; cases h
    have hset : ∀ g,F[g]? = some true → (F.set f true)[g]? = some true:=fun g h=>by
     by_cases e : g = f
     ·subst e; rw [List.getElem?_set_self (by omega)]
     ·rw [List.getElem?_set_ne (fun q=>e q.symm)]; exact h
    refine flt_soundK A hQ hns hP hrun htail todo (f :: done) fuel (F.set f true) _ _ β' hb2 hv3 M' (hle.trans hle') hvs (fun g hg=>?_) (fun g hg=>?_) (fun g hg=>hk g (List.mem_cons_of_mem _ hg)) (by simpa using hF) (by omega) ?_ (fun g hg=>?_) (fun g hg=>?_) hpart
    ·rcases List.mem_cons.1 hg with rfl | hg
     ·rw [List.getElem?_set_self (by omega)]
     ·exact hset g (hd g hg)
    ·rcases List.mem_cons.1 hg with rfl | hg
     ·exact hfk
     ·exact hdk g hg
    ·intro j hj l hl
     by_cases e : j = f
     ·subst e
      exact hset l (hd l (hw l hl))
     ·rw [List.getElem?_set_ne (fun q=>e q.symm)] at hj
      exact hset l (hc j hj l hl)
    ·have hne : g ≠ f:=fun e=>hfn (e ▸ hg)
     rw [List.getElem?_set_ne (fun q=>hne q.symm)]
     exact hf g (List.mem_cons_of_mem _ hg)
    ·rcases hfl g hg with h | h
     ·rcases List.mem_cons.1 h with rfl | h
      ·exact .inr (by rw [List.getElem?_set_self (by omega)])
      ·exact .inl h
     ·exact .inr (hset g h)
def WA (P : Program) (ops : Array Oper) (st : St) (Q : Exit → St → Prop) : Prop:=∀ (w0 : World) (E Zo : Nat → Prop) (gh : List Value) (a : Act) (w : World),Rel w0 E Zo gh st a w →
 wpAny P .any ops (fun e a' w'=>∃ st',Q e st' ∧ Rel w0 E Zo gh st' a' w') ops.size (Array.replicate ops.size false) a { w with drawn:=w.drawn + 1 }
theorem WA.sound {st : St} {Q : Exit → St → Prop} {id : Nat} (hm : P.follows .mixedOrders = true) (h : WA P ops st Q) : SW P (.region id ops true) st Q :=
 fun w0 E Zo gh a w r=>wp_region_any hm (h w0 E Zo gh a w r)
theorem WA.drawnK0 {st : St} {Q : Exit → St → Prop} (fl : List Nat) (k : Nat) (hk : anyF ops fl k = true) (hf : fltS ops [] fl = true) (hfv : FL P ops fl st.t) (hns : noSel ops = true) (hP : ∀ c st,¬ Q (.panic c) st)
  (h : RQ P (dsts ops) k ops.toList st (Q .normal)) : WA P ops st Q:=by
 intro w0 E Zo gh a w r
 have A:=Any.of hk
 obtain ⟨rs,st',hrun,htail⟩:=RQ_run h
 have hlenk : (ops.toList.take k).length = k:=by simp [A.le]
 have hrl : rs.length = k:=by rw [hrun.len,hlenk]
 have h0 : Array.replicate ops.size false = lay0 ops.size (List.replicate k false):=by
  have:=A.le
  unfold lay0
  rw [List.length_replicate,List.replicate_append_replicate,show k + (ops.size - k) = ops.size by omega]
  simp
 rw [h0]
 obtain ⟨β,M,g1,g2,g3,g4,g5⟩:=r
 have hG : Grow w { w with drawn:=w.drawn + 1 }:=Grow.drew w
 have hup : ∀ (st2 : St) (a : Act) (w2 : World),Rel { w with drawn:=w.drawn + 1 } (liveAt st.m β) Zo gh st2 a w2 → Rel w0 E Zo gh st2 a w2:=by
  rintro st2 a w2 ⟨β2,M2,q1,q2,q3,q4,q5⟩
  refine ⟨β2,M2,fun b hb=>?_,?_,q3,q4,q5⟩
  ·rcases q1 b hb with h | h
   ·exact g1 b h
   ·exact .inr (Nat.le_trans g2.size h)
  ·have g3 : Frame E w0 { w with drawn:=w.drawn + 1 }:=g2.trans (hG.mono (fun _ q=>q.elim))
   exact ⟨q2.os.trans g3.os,q2.tape.trans g3.tape,q2.output.trans g3.output,Nat.le_trans g3.size q2.size,fun i hi hE=>(q2.block i (Nat.lt_of_lt_of_le hi g3.size) (fun hl=>(g1 i hl).elim hE (fun h=>by omega))).trans (g3.block i hi hE),Nat.le_trans g3.drawn q2.drawn⟩
 refine wpAny_of_held _ _ _ _ (flt_soundK (K:=Q .normal) (st:=st) (β0:=β) (wb:={ w with drawn:=w.drawn + 1 }) (Zo:=Zo) (gh:=gh) A (fun st2 a w hq hr=>⟨st2,hq,hup _ _ _ hr⟩) hns (fun c a w ⟨st,h,_⟩=>hP c st h) hrun htail fl [] ops.size _ a st.t β hf hfv (M.grow hG) (Cx.le.refl _) (g4.mono (cx_le_grow hG)) (fun g hg=>by cases hg) (fun g hg=>by cases hg) A.flt (by simp) ?_ (fun i hi=>?_) (fun f hf=>?_) (fun f hf=>.inl hf) ?_)
 ·have h1 : ∀ n,left (List.replicate n false) = n:=by
   intro n
   induction n with
   | zero=>rfl
   | succ n ih=>simp [List.replicate_succ,left,ih]; omega
  have:=A.le
  rw [h1]; omega
 ·rw [List.getElem?_replicate] at hi
  split at hi <;> cases hi
 ·rw [List.getElem?_replicate,if_pos (A.flt f hf)]
 ·unfold Part
  rw [runT_none]
  have hf : ∀ (l : List Res),∃ n,flatM l (List.replicate l.length false) = List.replicate n .hole:=by
   intro l
   induction l with
   | nil=>exact ⟨0,rfl⟩
   | cons x xs ih =>
    obtain ⟨n,hn⟩:=ih
    refine ⟨(newOf x).length + n,?_⟩
    simp [List.replicate_succ,flatM,hn,← List.replicate_append_replicate]
  obtain ⟨n,hn⟩:=hf rs
  rw [hrl] at hn
  rw [hn]
  obtain ⟨M1,hle⟩:=(M.grow hG).holes n
  refine ⟨_,M1,?_,Frame.refl _ _,g3,g4.mono ((cx_le_grow hG).trans hle),g5.mono ((cx_le_grow hG).trans hle)⟩
  rintro b ⟨p,q,l,h1,h2,h3⟩
  rcases getElem?_append_holes h1 with h1 | ⟨_,rfl⟩
  ·rw [List.getElem?_append_left (by rw [M.len]; exact (List.getElem?_eq_some_iff.1 h1).1)] at h2
   exact .inl ⟨p,q,l,h1,h2,h3⟩
  ·simp [Ob.blk] at h3
def renO (inv : List Nat) (o : Oper) : Oper:=⟨o.dst,o.op,o.type,o.pos,o.after.map (fun e=>⟨inv.getD e.on inv.length,e.ground⟩),o.guard⟩
def permO (ord inv : List Nat) (ops : Array Oper) : Array Oper:=((pickO ops.toList ord).map (renO inv)).toArray
def permB (ord inv : List Nat) (ops : Array Oper) : Bool:=Nat.beq ord.length ops.size && Nat.beq inv.length ops.size && ((List.range ops.size).all fun i=>Nat.blt (ord.getD i ops.size) ops.size && Nat.blt (inv.getD i ops.size) ops.size && Nat.beq (ord.getD (inv.getD i ops.size) ops.size) i && Nat.beq (inv.getD (ord.getD i ops.size) ops.size) i) && ops.toList.all fun o=>o.guard.isNone
theorem pickO_get {os : List Oper} : ∀ {ord : List Nat},(∀ i ∈ ord,i < os.length) → ∀ i : Nat,(pickO os ord)[i]? = (ord[i]?).bind fun j=>os[j]?
 | [],_,i=>by simp [pickO]
 | f :: fl,h,i=>by
   have hf:=h f List.mem_cons_self
   have ih:=pickO_get (ord:=fl) (fun i hi=>h i (List.mem_cons_of_mem _ hi))
   rw [pickO,List.getElem?_eq_getElem hf]
   show (os[f] :: pickO os fl)[i]? = _
   cases i with
   | zero=>simp [List.getElem?_eq_getElem hf]
   | succ i=>simpa using ih i
theorem pickO_len {os : List Oper} : ∀ {ord : List Nat},(∀ i ∈ ord,i < os.length) → (pickO os ord).length = ord.length
 | [],_=>rfl
 | f :: fl,h=>by
   rw [pickO,List.getElem?_eq_getElem (h f List.mem_cons_self)]
   show (pickO os fl).length + 1 = fl.length + 1
   rw [pickO_len fun i hi=>h i (List.mem_cons_of_mem _ hi)]
theorem pickO_map {os : List Oper} {f : Oper → Oper} : ∀ fl : List Nat,pickO (os.map f) fl = (pickO os fl).map f
 | []=>rfl
 | i :: fl=>by
   rw [pickO,pickO,List.getElem?_map,pickO_map fl]
   cases os[i]? <;> rfl
theorem FLi_ren {inv : List Nat} : ∀ (os : List Oper) (st : St),FLi P (os.map (renO inv)) st = FLi P os st
 | [],st=>rfl
 | o :: os,st=>by
   have ih : (fun st'=>FLi P (os.map (renO inv)) st') = fun st'=>FLi P os st':=funext fun st'=>FLi_ren os st'
   rw [List.map_cons]
   show (opX (St.ev st.t) o.op ∧ T1 P (renO inv o) st (fun st'=>FLi P (os.map (renO inv)) st')) = (opX (St.ev st.t) o.op ∧ T1 P o st fun st'=>FLi P os st')
   rw [ih]
   rfl
theorem RS_ren {inv : List Nat} {ds ds' : List (Option Tmp)} : ∀ (os : List Oper) (st : St),(∀ o ∈ os,o.guard = none) → RS P ds' (os.map (renO inv)) st K = RS P ds os st K
 | [],st,_=>rfl
 | o :: os,st,hg=>by
   have h0 : o.guard = none:=hg o List.mem_cons_self
   have h0' : (renO inv o).guard = none:=h0
   have ih : (fun st'=>RS P ds' (os.map (renO inv)) st' K) = fun st'=>RS P ds os st' K:=funext fun st'=>RS_ren os st' fun x hx=>hg x (List.mem_cons_of_mem _ hx)
   rw [List.map_cons]
   unfold RS gv
   rw [h0,h0']
   show S1 P (renO inv o) st (fun st'=>RS P ds' (os.map (renO inv)) st' K) = S1 P o st fun st'=>RS P ds os st' K
   rw [ih]
   rfl
theorem RQ_ren {inv : List Nat} {ds ds' : List (Option Tmp)} : ∀ (k : Nat) (os : List Oper) (st : St),(∀ o ∈ os,o.guard = none) → RQ P ds' k (os.map (renO inv)) st K = RQ P ds k os st K
 | 0,os,st,hg=>by rw [RQ_zero,RQ_zero]; exact RS_ren os st hg
 | k + 1,[],st,hg=>rfl
 | k + 1,o :: os,st,hg=>by
   have h0 : o.guard = none:=hg o List.mem_cons_self
   have h0' : (renO inv o).guard = none:=h0
   have ih : (fun st'=>RQ P ds' k (os.map (renO inv)) st' K) = fun st'=>RQ P ds k os st' K:=funext fun st'=>RQ_ren k os st' fun x hx=>hg x (List.mem_cons_of_mem _ hx)
   rw [List.map_cons]
   unfold RQ gv
   rw [h0,h0']
   show Q1 P o.op (St.ev st.t) st.m st.m.length (fun r new=>(fun st'=>RQ P ds' k (os.map (renO inv)) st' K) ⟨putT st.t o.dst r,st.m ++ new,st.g⟩) = Q1 P o.op (St.ev st.t) st.m st.m.length (fun r new=>(fun st'=>RQ P ds k os st' K) ⟨putT st.t o.dst r,st.m ++ new,st.g⟩)
   rw [ih]
structure PermO (ord inv : List Nat) (ops ops' : Array Oper) : Prop where
 io : ∀ i,i < ops.size → inv.getD i ops.size < ops.size ∧ ord.getD (inv.getD i ops.size) ops.size = i
 oi : ∀ i,i < ops.size → ord.getD i ops.size < ops.size ∧ inv.getD (ord.getD i ops.size) ops.size = i
 li : inv.length = ops.size
 op : ∀ i o,ops[i]? = some o → o.guard = none ∧ ops'[inv.getD i ops.size]? = some (renO inv o)
 sz : ops'.size = ops.size
theorem permB_in {ord inv : List Nat} (h : permB ord inv ops = true) : ∀ i ∈ ord,i < ops.toList.length:=fun i hi=>by
 unfold permB at h
 simp only [Bool.and_eq_true] at h
 obtain ⟨⟨⟨h1,h2⟩,h3⟩,h4⟩:=h
 have h1:=Nat.eq_of_beq_eq_true h1
 obtain ⟨j,hj⟩:=List.getElem?_of_mem hi
 have hjl:=(List.getElem?_eq_some_iff.1 hj).1
 have:=List.all_eq_true.1 h3 j (List.mem_range.2 (by omega))
 simp only [Bool.and_eq_true,blt_iff] at this
 have:=this.1.1.1
 rw [List.getD_eq_getElem?_getD,hj] at this
 simpa using this
theorem PermO.of {ord inv : List Nat} (h : permB ord inv ops = true) : PermO ord inv ops (permO ord inv ops):=by
 have h0:=h
 unfold permB at h
 simp only [Bool.and_eq_true] at h
 obtain ⟨⟨⟨h1,h2⟩,h3⟩,h4⟩:=h
 have h1:=Nat.eq_of_beq_eq_true h1
 have h2:=Nat.eq_of_beq_eq_true h2
 have h3' : ∀ i,i < ops.size → (ord.getD i ops.size < ops.size ∧ inv.getD (ord.getD i ops.size) ops.size = i) ∧ (inv.getD i ops.size < ops.size ∧ ord.getD (inv.getD i ops.size) ops.size = i):=fun i hi=>by
  have:=List.all_eq_true.1 h3 i (List.mem_range.2 hi)
  simp only [Bool.and_eq_true,blt_iff] at this
  exact ⟨⟨this.1.1.1,Nat.eq_of_beq_eq_true this.2⟩,this.1.1.2,Nat.eq_of_beq_eq_true this.1.2⟩
 have hin:=permB_in h0
 have hget : ∀ i j : Nat,ord[i]? = some j → (permO ord inv ops)[i]? = (ops[j]?).map (renO inv):=fun i j hj=>by
  unfold permO
  rw [List.getElem?_toArray,List.getElem?_map,pickO_get hin,hj]
  simp
 refine ⟨fun i hi=>(h3' i hi).2,fun i hi=>(h3' i hi).1,h2,fun i o ho=>?_,?_⟩
 ·have hil:=(Array.getElem?_eq_some_iff.1 ho).1
  obtain ⟨k1,k2⟩:=(h3' i hil).2
  refine ⟨by have:=List.all_eq_true.1 h4 o (Array.mem_toList_iff.2 (Array.mem_of_getElem? ho)); simpa using this,?_⟩
  have hj : ord[inv.getD i ops.size]? = some i:=by
   rw [List.getD_eq_getElem?_getD (l:=ord),List.getElem?_eq_getElem (by omega)] at k2
   rw [List.getElem?_eq_getElem (by omega)]
   simpa using k2
  rw [hget _ _ hj,ho]; rfl
 ·unfold permO
  have:=pickO_len hin
  simp [this,h1]
theorem wpAny_perm {ord inv : List Nat} {ops' : Array Oper} {Q : Exit → Act → World → Prop} (h : PermO ord inv ops ops') : ∀ (fuel : Nat) (l l' : Array Bool) (a : Act) (w : World),l.size = ops.size → l'.size = ops.size → (∀ i,i < ops.size → l'[inv.getD i ops.size]? = l[i]?) →
  wpAny P .any ops' Q fuel l' a w → wpAny P .any ops Q fuel l a w:=by
 have hrd : ∀ (l l' : Array Bool),l.size = ops.size → l'.size = ops.size → (∀ i,i < ops.size → l'[inv.getD i ops.size]? = l[i]?) → ∀ i,i < ops.size → (i ∈ Region.ready .any ops l ↔ inv.getD i ops.size ∈ Region.ready .any ops' l'):=by
  intro l l' hl hl' hll i hi
  obtain ⟨hi1,hi2⟩:=h.io i hi
  obtain ⟨hg,ho'⟩:=h.op i _ (Array.getElem?_eq_getElem hi)
  rw [mem_ready,mem_ready]
  have hd : ∀ d,l'.getD (inv.getD i ops.size) d = l.getD i d:=fun d=>by rw [Array.getD_eq_getD_getElem?,Array.getD_eq_getD_getElem?,hll i hi]
  have hon : ∀ n : Nat,l'.getD (inv.getD n inv.length) false = l.getD n false:=fun n=>by
   by_cases hn : n < ops.size
   ·rw [h.li,Array.getD_eq_getD_getElem?,Array.getD_eq_getD_getElem?,hll n hn]
   ·have e1 : inv.getD n inv.length = ops.size:=by rw [List.getD_eq_getElem?_getD,List.getElem?_eq_none (by have:=h.li; omega),h.li]; rfl
    rw [e1,Array.getD_eq_getD_getElem?,Array.getD_eq_getD_getElem?,Array.getElem?_eq_none (by omega),Array.getElem?_eq_none (by omega)]
  rw [hd,ho',Array.getElem?_eq_getElem hi]
  refine and_congr Iff.rfl ?_
  constructor
  ·rintro ⟨o,e,k⟩
   injection e with e
   subst e
   refine ⟨_,rfl,fun e' he' hb=>?_⟩
   obtain ⟨e,he,rfl⟩:=Array.mem_map.1 he'
   rw [hon]
   exact k e he hb
  ·rintro ⟨o,e,k⟩
   injection e with e
   subst e
   refine ⟨_,rfl,fun e he hb=>?_⟩
   have:=k ⟨inv.getD e.on inv.length,e.ground⟩ (Array.mem_map.2 ⟨e,he,rfl⟩) hb
   rwa [hon] at this
 have hnil : ∀ (l l' : Array Bool),l.size = ops.size → l'.size = ops.size → (∀ i,i < ops.size → l'[inv.getD i ops.size]? = l[i]?) → Region.ready .any ops l = [] → Region.ready .any ops' l' = []:=by
  intro l l' hl hl' hll h0
  rw [List.eq_nil_iff_forall_not_mem]
  intro i hi
  have hil : i < ops.size:=by
   obtain ⟨_,o,ho,_⟩:=mem_ready.1 hi
   have:=(Array.getElem?_eq_some_iff.1 ho).1
   rw [h.sz] at this; exact this
  obtain ⟨k1,k2⟩:=h.oi i hil
  have:=(hrd l l' hl hl' hll _ k1).2 (by rw [k2]; exact hi)
  rw [h0] at this; cases this
 intro fuel
 induction fuel with
 | zero =>
  intro l l' a w hl hl' hll hw
  refine ⟨?_,hw.2⟩
  rw [List.eq_nil_iff_forall_not_mem]
  intro i hi
  have hil : i < ops.size:=by
   obtain ⟨_,o,ho,_⟩:=mem_ready.1 hi
   exact (Array.getElem?_eq_some_iff.1 ho).1
  have:=(hrd l l' hl hl' hll i hil).1 hi
  rw [hw.1] at this; cases this
 | succ fuel ih =>
  intro l l' a w hl hl' hll hw
  refine ⟨fun h0=>hw.1 (hnil l l' hl hl' hll h0),fun i hi=>?_⟩
  have hil : i < ops.size:=by
   obtain ⟨_,o,ho,_⟩:=mem_ready.1 hi
   exact (Array.getElem?_eq_some_iff.1 ho).1
  obtain ⟨hi1,hi2⟩:=h.io i hil
  obtain ⟨hg,ho'⟩:=h.op i _ (Array.getElem?_eq_getElem hil)
  have hk:=hw.2 _ ((hrd l l' hl hl' hll i hil).1 hi)
  have key : ∀ a' w',wpAny P .any ops' Q fuel (l'.setIfInBounds (inv.getD i ops.size) true) a' w' → wpAny P .any ops Q fuel (l.setIfInBounds i true) a' w':=fun a' w' hx=>by
   refine ih _ _ a' w' (by simpa using hl) (by simpa using hl') (fun j hj=>?_) hx
   rw [Array.getElem?_setIfInBounds,Array.getElem?_setIfInBounds,hll j hj]
   by_cases e : i = j
   ·subst e
    rw [if_pos rfl,if_pos rfl,if_pos (by omega),if_pos (by omega)]
   ·have : inv.getD i ops.size ≠ inv.getD j ops.size:=fun q=>e (by rw [← hi2,← (h.io j hj).2,q])
    rw [if_neg this,if_neg e]
  unfold wpOp at hk ⊢
  rw [ho'] at hk
  rw [Array.getElem?_eq_getElem hil]
  simp only at hk ⊢
  have w1 : Region.wanted ops[i] (yielded ops a.tmps) = true:=by unfold Region.wanted; rw [hg]
  have w2 : Region.wanted (renO inv ops[i]) (yielded ops' a.tmps) = true:=by unfold Region.wanted; rw [show (renO inv ops[i]).guard = none from hg]
  rw [if_pos w2] at hk
  rw [if_pos w1]
  rcases hk with hk | hk
  ·exact .inl (Oper.wp_mono key hk)
  ·exact .inr hk
theorem SW.drawnP {st : St} {Q : Exit → St → Prop} {id : Nat} (ord inv fl : List Nat) (k : Nat) (hm : P.follows .mixedOrders = true) (hp : permB ord inv ops = true) (hk : anyF (permO ord inv ops) fl k = true) (hf : fltS (permO ord inv ops) [] fl = true) (hns : noSel (permO ord inv ops) = true) (hfv : FLi P (pickO (pickO ops.toList ord) fl) ⟨st.t,[],[]⟩)
  (h : RQ P (dsts ops) k (pickO ops.toList ord) st (Q .normal)) : SW P (.region id ops true) st Q:=by
 have hin : ∀ i ∈ ord,i < ops.toList.length:=permB_in hp
 have hp:=PermO.of hp
 have hgs : ∀ o ∈ pickO ops.toList ord,o.guard = none:=by
  intro o ho
  obtain ⟨i,hi⟩:=List.getElem?_of_mem ho
  rw [pickO_get hin] at hi
  cases hj : ord[i]? with
  | none=>rw [hj] at hi; cases hi
  | some j =>
   rw [hj] at hi
   have hi : ops.toList[j]? = some o:=hi
   rw [Array.getElem?_toList] at hi
   exact (hp.op j o hi).1
 have hl : (permO ord inv ops).toList = (pickO ops.toList ord).map (renO inv):=rfl
 have hw : WA P (permO ord inv ops) st (fun e st=>match e with | .normal=>Q .normal st | _=>False):=by
  refine WA.drawnK0 fl k hk hf ?_ hns (fun c st h=>h) ?_
  ·unfold FL
   rw [hl,pickO_map,FLi_ren]; exact hfv
  ·rw [hl,RQ_ren _ _ _ hgs (ds:=dsts ops)]; exact h
 refine SW.mono (Q:=fun e st=>match e with | .normal=>Q .normal st | _=>False) (fun w0 E Zo gh a w r=>wp_region_any hm ?_) fun e st h=>?_
 ·have:=hw w0 E Zo gh a w r
  rw [hp.sz] at this
  refine wpAny_perm hp ops.size _ _ a _ (by simp) (by simp) (fun i hi=>?_) this
  rw [Array.getElem?_replicate,Array.getElem?_replicate,if_pos hi,if_pos (hp.io i hi).1]
 ·cases e <;> first | exact h | exact h.elim
end
end Go.Pm
end
section
namespace Go.Pm
open Go.RowKit
end Go.Pm
end
end

section
namespace Go.Proofs.Ytdkgiboofhlilaa
open Go.Pm
theorem RR.pre {c : Cx} {k b : Nat} : ∀ {xs ys : List (List V)} {o : Nat},RR c k b o (xs ++ ys) → RR c k b o xs
 | [],_,_,_=>trivial
 | _ :: _,_,_,⟨h1,h2,h3⟩=>⟨h1,h2,RR.pre h3⟩
end Go.Proofs.Ytdkgiboofhlilaa
end

section
namespace Go.Proofs.Ytdkgiboofhlilaa
open Go.Pm
open Go.Gm (Ev Gr)
theorem convs_r8m {m : List Ob} {a b c d e f g h : V} {l : List V} : convs m (r8 a b c d e f g h l) = r8 (conv m a) (conv m b) (conv m c) (conv m d) (conv m e) (conv m f) (conv m g) (conv m h) (convs m l):=rfl
theorem conv_junkm {m : List Ob} : conv m .junk = .junk:=rfl
def goneI (g : Gr) (id : Int) : Bool:=!Gm.hasId g.parked id && !Gm.hasId g.events id
def prevsL (l : List Ev) : List Int:=(l.map (·.prev)).flatten
def missL (g : Gr) : List Int:=(prevsL g.parked).filter (goneI g)
def missA (g : Gr) (i : Nat) : List Int:=(prevsL (g.parked.take i)).filter (goneI g)
def missB (g : Gr) (i : Nat) (ps : List Int) (j : Nat) : List Int:=missA g i ++ (ps.take j).filter (goneI g)
section
variable {P : Program} [Is P]
end
end Go.Proofs.Ytdkgiboofhlilaa
end

section
namespace Go.Proofs.Ytdkgiboofhlilaa
open Go.Pm
structure Spn where
 lo : Int
 hi : Int
def encSn (x : Spn) : List V:=[.int .i64 x.lo,.int .i64 x.hi]
theorem encSn_ref1 (ok : Nat → Prop) (x : Spn) : Refs ok (encSn x):=⟨trivial,trivial,trivial⟩
@[method_specs_simp] theorem encSn_refs (ok : Nat → Prop) (xs : List Spn) : Refss ok (xs.map encSn) = True:=eq_true (Refss_map fun a=>encSn_ref1 ok a)
@[method_specs_simp] theorem encSn_rens (ρ : Nat → Nat) (xs : List Spn) : renss ρ (xs.map encSn) = xs.map encSn:=renss_map fun a=>encSn_ref1 _ a
theorem flat_spns (xs : List Spn) : Flatss (xs.map encSn):=by
 induction xs with
 | nil=>trivial
 | cons x xs ih=>exact ⟨⟨trivial,trivial,trivial⟩,ih⟩
theorem pure_spns (lv : Bool) (xs : List Spn) : (Ob.arr lv 2 (xs.map encSn)).pure:=Refss_map fun a=>encSn_ref1 _ a
def mSpn (k : Int) : Spn:=⟨k,k + 1⟩
def mSpns : Int → Nat → List Spn
 | _,0=>[]
 | k,n + 1=>mSpn k :: mSpns (k + 2) n
@[method_specs_simp] theorem mSpns_len : ∀ (n : Nat) (k : Int),(mSpns k n).length = n
 | 0,k=>rfl
 | n + 1,k=>by simp [mSpns,mSpns_len n]
theorem mSpns_succ : ∀ (n : Nat) (k : Int),mSpns k (n + 1) = mSpns k n ++ [mSpn (k + 2 * n)]
 | 0,k=>by simp [mSpns]
 | n + 1,k=>by
   rw [mSpns,mSpns_succ n,mSpns,List.cons_append]
   congr 3
   have : ((n + 1 : Nat) : Int) = n + 1:=rfl
   rw [this]
   congr 1
   omega
theorem mSpns_get : ∀ (n : Nat) (k : Int) (i : Nat),i < n → (mSpns k n)[i]? = some (mSpn (k + 2 * i))
 | n + 1,k,0,h=>by simp [mSpns]
 | n + 1,k,i + 1,h=>by
   simp only [mSpns,List.getElem?_cons_succ]
   rw [mSpns_get n _ i (by omega)]
   congr 2; omega
section
variable {P : Program} [Is P]
theorem c_eqSpan (x : Spn) : Con P 143 [.agg (encSn x),.agg (encSn x)] (.bool true):=by
 have e5 : ∀ a : Int,(a != a) = false:=fun a=>by simp
 refine Con.of (n:=15) (rs:=[.tmp 4]) (Is.fn Try.func143) rfl (Is.call Try.call143) Try.results143 Try.ntmps143 trivial ?_
 simp only [method_specs_simp,seval]
 simp only [method_specs_simp,seval,encSn,e5]
theorem c_eqSpanS (xs : List Spn) (hx : xs.length < 2 ^ 62) : Con P 58 [.sl 2 (xs.map encSn),.sl 2 (xs.map encSn)] (.bool true):=by
 have e5 : ∀ a : Int,(a != a) = false:=fun a=>by simp
 refine Con.of (n:=27) (rs:=[.tmp 4]) (Is.fn Try.func58) rfl (Is.call Try.call58) Try.results58 Try.ntmps58 trivial ?_
 simp only [method_specs_simp,seval]
 simp only [method_specs_simp,seval,e5]
 refine SW.while (A:=Nat) (fun k=>⟨pad 27 [.sl 2 (xs.map encSn),.sl 2 (xs.map encSn),.junk,.junk,.bool false,.int .i64 k],[],[]⟩) (fun k=>xs.length - k) (fun k=>k ≤ xs.length) 0 [] (Nat.zero_le _) ?_ ?_
 ·simp only [mvcgen_simp,method_specs_simp,seval]
 ·intro k hk
  refine CW.sound ?_
  simp only [method_specs_simp,seval]
  refine gB_split (fun h=>?_) (fun h=>?_)
  ·simp only [decide_eq_true_eq,Int.ofNat_lt] at h
   have hxk : xs[k]? = some xs[k]:=List.getElem?_eq_getElem h
   generalize xs[k] = x at hxk
   simp only [List.getElem?_map,hxk,method_specs_simp,seval]
   refine ⟨by kernel_rfl,by omega,by omega,by simp [encSn],by omega,by omega,by simp [encSn],?_⟩
   rw [show List.take 2 (encSn x) = encSn x from rfl]
   refine clY.con (c_eqSpan x) (by simp only [method_specs_simp,encSn]) ?_
   simp only [method_specs_simp,seval]
   rw [wrap_id (by omega) (by omega)]
   refine Again.mk (k + 1) [] h (Nat.sub_lt_sub_left h (Nat.lt_succ_self _)) ?_
   simp only [mvcgen_simp,method_specs_simp,seval]
  ·trivial
theorem c_eqNilS : Con P 58 [.nil,.sl 2 (([] : List Spn).map encSn)] (.bool true) :=
 (c_eqSpanS [] (by decide)).weak (VLes.cons (VLe.nil 2) (VLes.same VLes.nil))
theorem n_markSpanS (xs : List Spn) (k : Int) (h0 : 0 ≤ k) (h1 : k < 2 ^ 50) (hx : xs.length < 2 ^ 50) : LCon P 59 [.ar 0 0 xs.length,.int .i64 k] [.arr true 2 (xs.map encSn)] (.int .i64 (k + 2 * xs.length)) [.arr true 2 ((mSpns k xs.length).map encSn)]:=by
 refine LCon.of (n:=27) (rs:=[.tmp 4]) (Is.fn Try.func59) rfl (Is.call Try.call59) Try.results59 Try.ntmps59 ?_
 simp only [method_specs_simp,seval]
 refine SW.while (A:=Nat × List Spn) (fun a=>⟨pad 27 [.ar 0 0 xs.length,.int .i64 (k + 2 * a.1),.junk,.junk,.junk,.int .i64 a.1],[.arr true 2 (a.2.map encSn)],[.ar 0 0 xs.length,.eptr 0 1 0]⟩) (fun a=>xs.length - a.1)
   (fun a=>a.1 ≤ xs.length ∧ a.2.length = xs.length ∧ a.2.take a.1 = mSpns k a.1) (0,xs) [0] ⟨Nat.zero_le _,rfl,rfl⟩ ?_ ?_
 ·rw [show k + 2 * ((0 : Nat) : Int) = k by omega]
  simp only [mvcgen_simp,method_specs_simp,seval]
 ·rintro ⟨i,ys⟩ ⟨hk,hy,hr⟩
  simp only at hk hy hr
  refine CW.sound ?_
  simp only [method_specs_simp,seval]
  refine gB_split (fun h=>?_) (fun h=>?_)
  ·simp only [decide_eq_true_eq,Int.ofNat_lt] at h
   have hl : i < (ys.map encSn).length:=by simp; omega
   obtain ⟨y,hyi⟩ : ∃ y,ys[i]? = some y:=⟨ys[i],List.getElem?_eq_getElem (by omega)⟩
   have eg : (ys.map encSn).getD i [] = encSn y:=by rw [List.getD_eq_getElem?_getD,List.getElem?_map,hyi]; rfl
   have e1 : IntKind.i64.wrap (k + 2 * i + 1) = k + 2 * i + 1:=wrap_id (by omega) (by omega)
   have e3 : IntKind.i64.wrap (k + 2 * i + 1 + 1) = k + 2 * ((i + 1 : Nat) : Int):=by rw [wrap_id (by omega) (by omega)]; omega
   have e4 : IntKind.i64.wrap ((i : Int) + 1) = ((i + 1 : Nat) : Int):=by rw [wrap_id (by omega) (by omega)]; rfl
   simp only [e1,e3,e4,eg,encSn,List.set_set,getD_set' hl,method_specs_simp,seval]
   refine ⟨by omega,by omega,by omega,by omega,by omega,by simp; omega,?_⟩
   refine Again.mk (i + 1,ys.set i (mSpn (k + 2 * i))) [0] ⟨h,by simpa using hy,?_⟩ (Nat.sub_lt_sub_left h (Nat.lt_succ_self _)) ?_
   ·simp only
    rw [take_set' (by omega),hr,mSpns_succ]
   ·have e : [V.int IntKind.i64 (k + 2 * (i : Int)),V.int IntKind.i64 (k + 2 * (i : Int) + 1)] = encSn (mSpn (k + 2 * i)):=rfl
    rw [e,← List.map_set]
    simp only [mvcgen_simp,method_specs_simp,seval]
  ·simp only [decide_eq_false_iff_not,Bool.not_true,Int.ofNat_lt] at h
   have hi : i = xs.length:=by omega
   subst hi
   have e : ys = mSpns k xs.length:=by rw [← hr,List.take_of_length_le (by omega)]
   subst e
   refine LResY.mk [0] ?_
   simp only [mvcgen_simp,method_specs_simp,seval]
theorem c_heldSpanS (k : Int) (n : Nat) (h0 : 0 ≤ k) (h1 : k < 2 ^ 43) (hx : n < 2 ^ 43) : Con P 80 [.sl 2 ((mSpns k n).map encSn),.int .i64 k] (.int .i64 (k + 2 * n)):=by
 refine Con.of (n:=31) (rs:=[.tmp 4]) (Is.fn Try.func80) rfl (Is.call Try.call80) Try.results80 Try.ntmps80 trivial ?_
 simp only [method_specs_simp,seval]
 refine SW.while (A:=Nat) (fun i=>⟨pad 31 [.sl 2 ((mSpns k n).map encSn),.int .i64 (k + 2 * i),.junk,.junk,.junk,.int .i64 i],[],[]⟩) (fun i=>n - i) (fun i=>i ≤ n) 0 [] (Nat.zero_le _) ?_ ?_
 ·rw [show k + 2 * ((0 : Nat) : Int) = k by omega]
  simp only [mvcgen_simp,method_specs_simp,seval]
 ·intro i hi
  refine CW.sound ?_
  simp only [method_specs_simp,seval,mSpns_len]
  refine gB_split (fun h=>?_) (fun h=>?_)
  ·simp only [decide_eq_true_eq,Int.ofNat_lt] at h
   have hg:=mSpns_get n k i h
   have e1 : IntKind.i64.wrap (k + 2 * i + 1) = k + 2 * i + 1:=wrap_id (by omega) (by omega)
   have e3 : IntKind.i64.wrap (k + 2 * i + 1 + 1) = k + 2 * ((i + 1 : Nat) : Int):=by rw [wrap_id (by omega) (by omega)]; omega
   have e4 : IntKind.i64.wrap ((i : Int) + 1) = ((i + 1 : Nat) : Int):=by rw [wrap_id (by omega) (by omega)]; rfl
   have e5 : ∀ a : Int,(a != a) = false:=fun a=>by simp
   simp only [method_specs_simp,seval,hg,encSn,mSpn,e1,e3,e4,e5]
   refine ⟨by omega,by omega,by omega,by omega,?_⟩
   refine Again.mk (i + 1) [] h (Nat.sub_lt_sub_left h (Nat.lt_succ_self _)) ?_
   simp only [mvcgen_simp,method_specs_simp,seval]
  ·simp only [decide_eq_false_iff_not,Bool.not_true,Int.ofNat_lt] at h
   rw [show i = n by omega]
theorem c_heldNilS (k : Int) (h0 : 0 ≤ k) (h1 : k < 2 ^ 40) : Con P 80 [.nil,.int .i64 k] (.int .i64 k):=by
 have h:=(c_heldSpanS (P:=P) k 0 h0 (by omega) (by decide)).weak (VLes.cons (VLe.nil 2) (VLes.same VLes.nil))
 rwa [show k + 2 * ((0 : Nat) : Int) = k by omega] at h
theorem c_markNilS (k : Int) : Con P 59 [.nil,.int .i64 k] (.int .i64 k):=by
 have h : Con P 59 [.sl 2 [],.int .i64 k] (.int .i64 k):=by
  refine Con.of (n:=27) (rs:=[.tmp 4]) (Is.fn Try.func59) rfl (Is.call Try.call59) Try.results59 Try.ntmps59 trivial ?_
  simp only [method_specs_simp,seval]
  refine SW.while (A:=Unit) (fun _=>⟨pad 27 [.sl 2 [],.int .i64 k,.junk,.junk,.junk,.int .i64 0],[],[]⟩) (fun _=>0) (fun _=>True) () [] trivial ?_ ?_
  ·simp only [mvcgen_simp,method_specs_simp,seval]
  ·intro _ _
   refine CW.sound ?_
   simp only [method_specs_simp,seval]
 exact h.weak (VLes.cons (VLe.nil 2) (VLes.same VLes.nil))
end
end Go.Proofs.Ytdkgiboofhlilaa
end

section
namespace Go.Proofs.Ytdkgiboofhlilaa
open Go.Pm
open Go.Gm (Ev Gr)
set_option maxHeartbeats 4000000
def stepN (o : List Spn) (n : Int) : List Spn:=match o.getLast? with
 | some x=>if IntKind.i64.wrap (x.hi + 1) == n then o.dropLast ++ [⟨x.lo,n⟩] else o ++ [⟨n,n⟩]
 | none=>[⟨n,n⟩]
def spnL (l : List Int) : List Spn:=l.foldl stepN []
theorem spnL_next {l : List Int} {i : Nat} {n : Int} (h : l[i]? = some n) : spnL (l.take (i + 1)) = stepN (spnL (l.take i)) n:=by
 rw [List.take_add_one,h,Option.toList_some]
 unfold spnL
 rw [List.foldl_append]; rfl
theorem stepN_len (o : List Spn) (n : Int) : (stepN o n).length ≤ o.length + 1:=by
 unfold stepN
 split
 ·rename_i x hx
  split
  ·rw [List.length_append,List.length_dropLast,List.length_singleton]; omega
  ·rw [List.length_append]; simp
 ·simp
theorem spnL_len (l : List Int) : (spnL l).length ≤ l.length:=by
 have : ∀ (l : List Int) (o : List Spn),(l.foldl stepN o).length ≤ o.length + l.length:=by
  intro l
  induction l with
  | nil=>intro o; exact Nat.le_refl _
  | cons x l ih =>
   intro o
   have h1:=ih (stepN o x)
   have h2:=stepN_len o x
   simp only [List.foldl_cons,List.length_cons]
   omega
 have:=this l []
 simpa [spnL] using this
theorem last_at {α : Type} {o : List α} (h : 0 < o.length) : ∃ x,o.getLast? = some x ∧ o[o.length - 1]? = some x:=by
 obtain ⟨x,hx⟩ : ∃ x,o[o.length - 1]? = some x:=⟨_,List.getElem?_eq_getElem (by omega)⟩
 exact ⟨x,by rw [List.getLast?_eq_getElem?]; exact hx,hx⟩
theorem set_last {α : Type} {o : List α} {y : α} (h : 0 < o.length) : o.set (o.length - 1) y = o.dropLast ++ [y]:=by
 apply List.ext_getElem?
 intro i
 rw [List.getElem?_set,List.getElem?_append,List.length_dropLast,List.getElem?_dropLast]
 by_cases h1 : o.length - 1 = i
 ·subst h1
  rw [if_pos rfl,if_pos (by omega),if_neg (by omega),Nat.sub_self]; rfl
 ·rw [if_neg h1]
  by_cases h2 : i < o.length - 1
  ·rw [if_pos h2]
   rw [if_pos h2]
  ·rw [if_neg h2,List.getElem?_eq_none (by omega),List.getElem?_eq_none (by simp; omega)]
section
variable {P : Program} [Is P]
theorem n_spans (l : List Int) (hl : l.length ≤ 1000) : NCon P 217 [.sl 1 (l.map encI)] (.ar 0 0 (spnL l).length) [.arr true 2 ((spnL l).map encSn)]:=by
 refine LCon.new (LCon.of (n:=42) (rs:=[.tmp 2]) (Is.fn Try.func217) rfl (Is.call Try.call217) Try.results217 Try.ntmps217 ?_) (pure1 (pure_spns _ _))
 simp only [method_specs_simp,seval]
 refine SW.while (A:=Nat) (fun i=>⟨pad 42 [.junk,.junk,.nil,.ar 0 0 (spnL (l.take i)).length,.junk,.junk,.junk,.junk,.sl 1 (l.map encI),.int .i64 l.length,.int .i64 i],[.arr true 2 ((spnL (l.take i)).map encSn)],[]⟩) (fun i=>l.length - i) (fun i=>i ≤ l.length) 0 [0] (Nat.zero_le _) ?_ ?_
 ·have h0 : spnL (l.take 0) = []:=rfl
  rw [h0]
  simp only [mvcgen_simp,method_specs_simp,seval]
 ·intro i hi
  have w1 : IntKind.i64.wrap ((i : Int) + 1) = ((i + 1 : Nat) : Int):=wadd1 i (by omega)
  have hsl:=spnL_len (l.take i)
  rw [List.length_take] at hsl
  refine CW.sound ?_
  simp only [method_specs_simp,seval]
  refine gB_split (fun h=>?_) (fun h=>?_)
  ·simp only [decide_eq_true_eq,Int.ofNat_lt] at h
   obtain ⟨n,hn⟩ : ∃ n,l[i]? = some n:=⟨_,List.getElem?_eq_getElem h⟩
   have hnx:=spnL_next hn
   obtain ⟨o,ho⟩ : ∃ o,o = spnL (l.take i):=⟨_,rfl⟩
   rw [← ho] at hnx hsl ⊢
   simp only [method_specs_simp,seval,hn,encI]
   refine ⟨by omega,by omega,?_⟩
   rcases Nat.eq_zero_or_pos o.length with h0 | h0
   ·have he : o = []:=List.eq_nil_of_length_eq_zero h0
    have hst : stepN o n = [⟨n,n⟩]:=by rw [he]; rfl
    have k1 : decide (IntKind.i64.wrap ((o.length : Int) - 1) ≥ 0) = false:=by
     rw [wrap_id (by omega) (by omega)]; exact decide_eq_false (by omega)
    rw [k1]
    simp only [method_specs_simp,seval]
    refine ⟨by omega,by omega,?_⟩
    have e1 : o.map encSn ++ [[V.int .i64 n,V.int .i64 n]] = (spnL (l.take (i + 1))).map encSn:=by rw [hnx,hst,he]; rfl
    have e2 : o.length + 1 = (spnL (l.take (i + 1))).length:=by rw [hnx,hst,he]; rfl
    rw [e1,e2]
    refine Again.mk (i + 1) [2] h (Nat.sub_lt_sub_left h (Nat.lt_succ_self _)) ?_
    simp only [mvcgen_simp,method_specs_simp,seval,w1]
   ·obtain ⟨x,hx1,hx2⟩:=last_at h0
    obtain ⟨q,hq⟩ : ∃ q,q = o.length - 1:=⟨_,rfl⟩
    have w0 : IntKind.i64.wrap ((o.length : Int) - 1) = (q : Int):=by rw [wrap_id (by omega) (by omega)]; omega
    have k1 : decide ((q : Int) ≥ 0) = true:=decide_eq_true (by omega)
    rw [← hq] at hx2
    rw [w0,k1]
    simp only [method_specs_simp,seval,hx2,encSn]
    refine ⟨by omega,by omega,?_⟩
    cases hc : IntKind.i64.wrap (x.hi + 1) == n with
    | false =>
     have hst : stepN o n = o ++ [⟨n,n⟩]:=by unfold stepN; rw [hx1]; simp only [hc]; rfl
     have e1 : o.map encSn ++ [[V.int .i64 n,V.int .i64 n]] = (spnL (l.take (i + 1))).map encSn:=by rw [hnx,hst,List.map_append]; rfl
     have e2 : o.length + 1 = (spnL (l.take (i + 1))).length:=by rw [hnx,hst,List.length_append]; rfl
     simp only [method_specs_simp,seval]
     refine ⟨by omega,by omega,?_⟩
     rw [e1,e2]
     refine Again.mk (i + 1) [2] h (Nat.sub_lt_sub_left h (Nat.lt_succ_self _)) ?_
     simp only [mvcgen_simp,method_specs_simp,seval,w1]
    | true =>
     have hst : stepN o n = o.dropLast ++ [⟨x.lo,n⟩]:=by unfold stepN; rw [hx1]; simp only [hc]; rfl
     have eg : (o.map encSn).getD q [] = [V.int .i64 x.lo,V.int .i64 x.hi]:=by rw [List.getD_eq_getElem?_getD,List.getElem?_map,hx2]; rfl
     simp only [method_specs_simp,seval,hx2,eg]
     refine ⟨by omega,by omega,by omega,?_⟩
     have e1 : (o.map encSn).set q [V.int .i64 x.lo,V.int .i64 n] = (spnL (l.take (i + 1))).map encSn:=by
      rw [hnx,hst,← set_last (y:=⟨x.lo,n⟩) h0,← hq,List.map_set]; rfl
     have e2 : o.length = (spnL (l.take (i + 1))).length:=by rw [hnx,hst,List.length_append,List.length_dropLast,List.length_singleton]; omega
     rw [e1,e2]
     refine Again.mk (i + 1) [0] h (Nat.sub_lt_sub_left h (Nat.lt_succ_self _)) ?_
     simp only [mvcgen_simp,method_specs_simp,seval,w1]
  ·have hi2 : i = l.length:=by simp only [decide_eq_false_iff_not,Bool.not_true,Int.ofNat_lt] at h; omega
   rw [hi2,List.take_length]
   refine LResY.mk [0] ?_
   simp only [mvcgen_simp,method_specs_simp,seval]
theorem c_l15Of (l : List Int) (hl : l.length ≤ 1000) : Con P 215 [.sl 1 (l.map encI)] (.sl 2 ((spnL l).map encSn)):=by
 refine Con.of (n:=53) (rs:=[.tmp 2]) (Is.fn Try.func215) rfl (Is.call Try.call215) Try.results215 Try.ntmps215 (by simp only [method_specs_simp]) ?_
 simp only [method_specs_simp,seval]
 refine SW.while (A:=Nat) (fun i=>⟨pad 53 [.sl 1 (l.map encI),.junk,.nil,.ar 0 0 (spnL (l.take i)).length,.int .i64 i],[.arr true 2 ((spnL (l.take i)).map encSn)],[]⟩) (fun i=>l.length - i) (fun i=>i ≤ l.length) 0 [0] (Nat.zero_le _) ?_ ?_
 ·have h0 : spnL (l.take 0) = []:=rfl
  rw [h0]
  simp only [mvcgen_simp,method_specs_simp,seval]
 ·intro i hi
  have w1 : IntKind.i64.wrap ((i : Int) + 1) = ((i + 1 : Nat) : Int):=wadd1 i (by omega)
  have hsl:=spnL_len (l.take i)
  rw [List.length_take] at hsl
  refine CW.sound ?_
  simp only [method_specs_simp,seval]
  refine gB_split (fun h=>?_) (fun h=>?_)
  ·simp only [decide_eq_true_eq,Int.ofNat_lt] at h
   obtain ⟨n,hn⟩ : ∃ n,l[i]? = some n:=⟨_,List.getElem?_eq_getElem h⟩
   have hnx:=spnL_next hn
   obtain ⟨o,ho⟩ : ∃ o,o = spnL (l.take i):=⟨_,rfl⟩
   rw [← ho] at hnx hsl ⊢
   refine ⟨by kernel_rfl,?_⟩
   rcases Nat.eq_zero_or_pos o.length with h0 | h0
   ·have he : o = []:=List.eq_nil_of_length_eq_zero h0
    have hst : stepN o n = [⟨n,n⟩]:=by rw [he]; rfl
    have k1 : decide ((o.length : Int) > 0) = false:=decide_eq_false (by omega)
    rw [k1]
    simp only [method_specs_simp,seval,hn,encI]
    refine ⟨by kernel_rfl,by omega,by omega,by omega,by omega,by omega,by omega,?_⟩
    have e1 : o.map encSn ++ [[V.int .i64 n,V.int .i64 n]] = (spnL (l.take (i + 1))).map encSn:=by rw [hnx,hst,he]; rfl
    have e2 : o.length + 1 = (spnL (l.take (i + 1))).length:=by rw [hnx,hst,he]; rfl
    rw [e1,e2]
    refine Again.mk (i + 1) [2] h (Nat.sub_lt_sub_left h (Nat.lt_succ_self _)) ?_
    simp only [mvcgen_simp,method_specs_simp,seval,w1]
   ·obtain ⟨x,hx1,hx2⟩:=last_at h0
    obtain ⟨q,hq⟩ : ∃ q,q = o.length - 1:=⟨_,rfl⟩
    have w0 : IntKind.i64.wrap ((o.length : Int) - 1) = (q : Int):=by rw [wrap_id (by omega) (by omega)]; omega
    have k1 : decide ((o.length : Int) > 0) = true:=decide_eq_true (by omega)
    rw [← hq] at hx2
    rw [w0,k1]
    simp only [method_specs_simp,seval,hx2,encSn,hn,encI]
    refine ⟨by omega,by omega,by omega,by omega,?_⟩
    cases hc : IntKind.i64.wrap (x.hi + 1) == n with
    | false =>
     have hst : stepN o n = o ++ [⟨n,n⟩]:=by unfold stepN; rw [hx1]; simp only [hc]; rfl
     have e1 : o.map encSn ++ [[V.int .i64 n,V.int .i64 n]] = (spnL (l.take (i + 1))).map encSn:=by rw [hnx,hst,List.map_append]; rfl
     have e2 : o.length + 1 = (spnL (l.take (i + 1))).length:=by rw [hnx,hst,List.length_append]; rfl
     simp only [method_specs_simp,seval,hn,encI]
     refine ⟨by kernel_rfl,by omega,by omega,by omega,by omega,by omega,by omega,?_⟩
     rw [e1,e2]
     refine Again.mk (i + 1) [2] h (Nat.sub_lt_sub_left h (Nat.lt_succ_self _)) ?_
     simp only [mvcgen_simp,method_specs_simp,seval,w1]
    | true =>
     have hst : stepN o n = o.dropLast ++ [⟨x.lo,n⟩]:=by unfold stepN; rw [hx1]; simp only [hc]; rfl
     have eg : (o.map encSn).getD q [] = [V.int .i64 x.lo,V.int .i64 x.hi]:=by rw [List.getD_eq_getElem?_getD,List.getElem?_map,hx2]; rfl
     simp only [method_specs_simp,seval,hx2,eg,w0,hn,encI]
     refine ⟨by omega,by omega,by omega,by omega,by omega,?_⟩
     have e1 : (o.map encSn).set q [V.int .i64 x.lo,V.int .i64 n] = (spnL (l.take (i + 1))).map encSn:=by
      rw [hnx,hst,← set_last (y:=⟨x.lo,n⟩) h0,← hq,List.map_set]; rfl
     have e2 : o.length = (spnL (l.take (i + 1))).length:=by rw [hnx,hst,List.length_append,List.length_dropLast,List.length_singleton]; omega
     rw [e1,e2]
     refine Again.mk (i + 1) [0] h (Nat.sub_lt_sub_left h (Nat.lt_succ_self _)) ?_
     simp only [mvcgen_simp,method_specs_simp,seval,w1]
  ·have hi2 : i = l.length:=by simp only [decide_eq_false_iff_not,Bool.not_true,Int.ofNat_lt] at h; omega
   rw [hi2,List.take_length]
theorem c_copied (e : Ev) (he : EvOK e) : Con P 169 [.agg (encEv e)] (.agg (encEv e)):=by
 have e1 : convR [obI e] (.agg (rowEv 0 e)) = .agg (encEv e):=by
  unfold obI rowEv encEv
  simp only [method_specs_simp,List.take_of_length_le,List.length_map,Nat.le_refl]
 have h:=(n_copied (P:=P) e he).con (by rw [e1]; exact encEv_ref1 _ e)
 rwa [e1] at h
theorem n_copyEvents (xs : List Ev) (hx : EvsOK xs) (h1 : xs.length ≤ 100) : NCon P 216 [.sl 9 (xs.map encEv)] (.ar 0 0 xs.length) [.arr true 9 (xs.map encEv)]:=by
 refine LCon.new (LCon.of (n:=20) (rs:=[.tmp 2]) (Is.fn Try.func216) rfl (Is.call Try.call216) Try.results216 Try.ntmps216 ?_) (pure1 (Refss_map fun a=>encEv_ref1 _ a))
 simp only [method_specs_simp,seval]
 refine SW.while (A:=Nat) (fun i=>⟨pad 20 [.junk,.junk,.nil,.ar 0 0 i,.junk,.junk,.junk,.sl 9 (xs.map encEv),.int .i64 xs.length,.int .i64 i],[.arr true 9 ((xs.take i).map encEv)],[]⟩) (fun i=>xs.length - i) (fun i=>i ≤ xs.length) 0 [0] (Nat.zero_le _) ?_ ?_
 ·simp only [mvcgen_simp,method_specs_simp,seval]
 ·intro i hi
  have w1 : IntKind.i64.wrap ((i : Int) + 1) = ((i + 1 : Nat) : Int):=wadd1 i (by omega)
  have hil : ((xs.take i).map encEv).length = i:=by rw [List.length_map,List.length_take]; omega
  refine CW.sound ?_
  simp only [method_specs_simp,seval]
  refine gB_split (fun h=>?_) (fun h=>?_)
  ·simp only [decide_eq_true_eq,Int.ofNat_lt] at h
   obtain ⟨e,he⟩ : ∃ e,xs[i]? = some e:=⟨_,List.getElem?_eq_getElem h⟩
   have heOK:=hx.2 e (List.mem_of_getElem? he)
   have hcp:=c_copied (P:=P) e heOK
   have hnx : (xs.take i).map encEv ++ [encEv e] = (xs.take (i + 1)).map encEv:=by rw [List.take_add_one,he,Option.toList_some,List.map_append]; rfl
   simp only [method_specs_simp,seval,he,encEv]
   refine ⟨by omega,by omega,?_⟩
   refine clY.con hcp (by simp only [method_specs_simp,encEv]) ?_
   simp only [method_specs_simp,seval,hil,encEv]
   refine ⟨by omega,by omega,?_⟩
   show Again _ _ _ _ ⟨_,[_,_,_,.arr true 9 ((xs.take i).map encEv ++ [encEv e])],_⟩
   rw [hnx]
   refine Again.mk (i + 1) [3] h (Nat.sub_lt_sub_left h (Nat.lt_succ_self _)) ?_
   simp only [mvcgen_simp,method_specs_simp,seval,w1]
  ·have hi2 : i = xs.length:=by simp only [decide_eq_false_iff_not,Bool.not_true,Int.ofNat_lt] at h; omega
   rw [hi2,List.take_length]
   refine LResY.mk [0] ?_
   simp only [mvcgen_simp,method_specs_simp,seval]
def idsG (g : Gr) : List Int:=(g.events ++ g.parked).map (·.id)
def hvS (g : Gr) : List Spn:=spnL (dd (srtI (idsG g)))
theorem right_few {g : Gr} (hr : Gm.grRight g = true) : g.events.length ≤ 60 ∧ g.parked.length ≤ 20:=by
 simp only [Gm.grRight,Gm.rowR,Bool.and_eq_true,decide_eq_true_eq] at hr
 exact ⟨by have:=hr.2.1.1; omega,by have:=hr.2.2.1.1; omega⟩
theorem ddS_len (l : List Int) : (dd (srtI l)).length ≤ l.length:=by
 have h5:=ddF_len (srtI l) none
 rw [srtI_len] at h5
 exact h5
theorem n_have (g : Gr) (hg : GrOK g) (hr : Gm.grRight g = true) : NCon P 159 [.agg (encGr g)] (.ar 0 0 (hvS g).length) [.arr true 2 ((hvS g).map encSn)]:=by
 obtain ⟨h1,h2⟩:=right_few hr
 have hcp:=n_copyEvents (P:=P) g.events hg.1 (by omega)
 obtain ⟨L,hL⟩ : ∃ L,L = g.events ++ g.parked:=⟨_,rfl⟩
 have hLl : L.length = g.events.length + g.parked.length:=by rw [hL,List.length_append]
 have hLm : g.events.map encEv ++ g.parked.map encEv = L.map encEv:=by rw [hL,List.map_append]
 refine LCon.new (?_) (pure1 (pure_spns _ _))
 refine LCon.ofS (n:=27) (rs:=[.tmp 2]) (Is.fn Try.func159) rfl (Is.call Try.call159) Try.results159 Try.ntmps159 ?_
 refine SW.seq (CW.sound ?_)
 simp only [method_specs_simp,seval,encGr]
 refine SW.seq (CW.sound ?_)
 simp only [method_specs_simp,seval,encGr]
 refine SW.seq ?_
 refine SW.seq (SW.drawnP [0,1,2,3,4,7,5,6] [0,1,2,3,4,6,7,5] [5] 6 mixed (by kernel_rfl) (by kernel_rfl) (by kernel_rfl) (by kernel_rfl) ?_ ?_)
 ·simp only [method_specs_simp,seval,encGr,List.getElem?_cons_succ,List.getElem?_cons_zero]
 show RQi P _ _ _ _ _
 simp only [method_specs_simp,seval,encGr,List.getElem?_cons_succ,List.getElem?_cons_zero]
 refine clY.new hcp ⟨of_eq_true (encEv_refs _ _),trivial⟩ ?_
 simp only [method_specs_simp,seval,encGr]
 refine ⟨by omega,by omega,?_⟩
 rw [hLm]
 have hcast : (g.events.length : Int) + g.parked.length = (L.length : Int):=by omega
 have hids : idsG g = L.map (·.id):=by rw [hL]; rfl
 rw [hcast,← hLl]
 refine SW.block ?_
 refine SW.while (A:=Nat) (fun i=>⟨pad 27 [.junk,.junk,.nil,.ar 1 0 i,.junk,.junk,.junk,.junk,.junk,.junk,.junk,.junk,.ar 0 0 L.length,.int .i64 L.length,.int .i64 i],[.arr true 9 (L.map encEv),.arr true 1 (((L.take i).map (·.id)).map encI)],[]⟩) (fun i=>L.length - i) (fun i=>i ≤ L.length) 0 [3,1] (Nat.zero_le _) ?_ ?_
 ·simp only [mvcgen_simp,method_specs_simp,seval,encGr]
 ·intro i hi
  have w1 : IntKind.i64.wrap ((i : Int) + 1) = ((i + 1 : Nat) : Int):=wadd1 i (by omega)
  have hil : ((L.take i).map (·.id)).length = i:=by rw [List.length_map,List.length_take]; omega
  refine CW.sound ?_
  simp only [method_specs_simp,seval,encGr]
  refine gB_split (fun h=>?_) (fun h=>?_)
  ·simp only [decide_eq_true_eq,Int.ofNat_lt] at h
   obtain ⟨e,he⟩ : ∃ e,L[i]? = some e:=⟨_,List.getElem?_eq_getElem h⟩
   have hnx : ((L.take i).map (·.id)).map encI ++ [[V.int .i64 e.id]] = ((L.take (i + 1)).map (·.id)).map encI:=by rw [List.take_add_one,he,Option.toList_some,List.map_append,List.map_append]; rfl
   simp only [method_specs_simp,seval,encGr,he,encEv,hil]
   refine ⟨by omega,by omega,by omega,by omega,?_⟩
   rw [hnx]
   refine Again.mk (i + 1) [0,4] h (Nat.sub_lt_sub_left h (Nat.lt_succ_self _)) ?_
   simp only [mvcgen_simp,method_specs_simp,seval,encGr,w1]
  ·have hi2 : i = L.length:=by simp only [decide_eq_false_iff_not,Bool.not_true,Int.ofNat_lt] at h; omega
   rw [hi2,List.take_length,← hids]
   have hil2 : (idsG g).length = L.length:=by rw [hids,List.length_map]
   have hdl:=ddS_len (idsG g)
   have hso:=n_sorted (P:=P) (idsG g) L.length hil2 (by omega)
   refine CW.sound ?_
   simp only [method_specs_simp,seval,encGr]
   refine clY.live [1] [] hso ?_ (by simp) ?_
   ·simp only [mvcgen_simp,method_specs_simp,seval,encGr]
   simp only [method_specs_simp,seval,encGr]
   have hpz : List.take (dd (srtI (idsG g))).length ((padZ (dd (srtI (idsG g))) L.length).map encI) = (dd (srtI (idsG g))).map encI:=by
    unfold padZ
    rw [List.map_append]
    exact List.take_left' (List.length_map _)
   refine clY.newF (n_spans (dd (srtI (idsG g))) (by omega)) (by simp only [method_specs_simp,hpz]) (by simp only [method_specs_simp]) trivial (flat1 ⟨rfl,flat_spns _⟩) ?_
   simp only [method_specs_simp,seval,encGr]
   refine LResY.mk [2] ?_
   simp only [mvcgen_simp,method_specs_simp,seval,encGr]
   try exact ⟨rfl,rfl⟩
theorem n_HaveOf (g : Gr) (hg : GrOK g) (hr : Gm.grRight g = true) : LCon P 79 [.agg (encGr g)] [] (.ar 0 0 (hvS g).length) [.arr true 2 ((hvS g).map encSn)]:=by
 refine LCon.of (n:=8) (rs:=[.tmp 2]) (Is.fn Try.func79) rfl (Is.call Try.call79) Try.results79 Try.ntmps79 ?_
 simp only [method_specs_simp,seval,encGr]
 refine clY.con (c_GraphRight g hg) (by simp only [method_specs_simp,encGr]) ?_
 simp only [method_specs_simp,seval,encGr,hr]
 refine clY.new (n_have g hg hr) (by simp only [method_specs_simp,encGr]) ?_
 simp only [method_specs_simp,seval,encGr]
 refine LResY.mk [1] ?_
 simp only [mvcgen_simp,method_specs_simp,seval,encGr]
theorem c_HaveOfZ (g : Gr) (hg : GrOK g) (hr : Gm.grRight g = false) : Con P 79 [.agg (encGr g)] .nil:=by
 refine Con.of (n:=8) (rs:=[.tmp 2]) (Is.fn Try.func79) rfl (Is.call Try.call79) Try.results79 Try.ntmps79 trivial ?_
 simp only [method_specs_simp,seval]
 refine clY.con (c_GraphRight g hg) (by simp only [method_specs_simp]) ?_
 simp only [method_specs_simp,seval,hr]
theorem c_l16Have (g : Gr) (hg : GrOK g) (hr : Gm.grRight g = true) : Con P 158 [.agg (encGr g)] (.sl 2 ((hvS g).map encSn)):=by
 obtain ⟨h1,h2⟩:=right_few hr
 have hsl : ∀ l : List Int,(l.foldl setI []).length ≤ l.length:=foldSet_len
 have hst : ∀ (l : List Int) (n : Int),(l ++ [n]).foldl setI [] = setI (l.foldl setI []) n:=fun l n=>by rw [List.foldl_append]; rfl
 have hfin : ((g.events.map (·.id)) ++ (g.parked.map (·.id))).foldl setI [] = dd (srtI (idsG g)):=by rw [dd_set,idsG,List.map_append]
 refine Con.ofS (n:=39) (rs:=[.tmp 2]) (Is.fn Try.func158) rfl (Is.call Try.call158) Try.results158 Try.ntmps158 (by simp only [method_specs_simp]) ?_
 refine SW.seq (CW.sound ?_)
 simp only [method_specs_simp,seval,encGr]
 refine SW.seq (CW.sound ?_)
 simp only [method_specs_simp,seval,encGr]
 refine SW.freeze [1] ?_
 simp only [mvcgen_simp,method_specs_simp,seval,encGr,convs_r8m,conv_junkm]
 refine SW.seq (CW.sound ?_)
 simp only [method_specs_simp,seval,encGr]
 refine SW.while (A:=Nat) (fun i=>⟨pad 39 [.junk,.ptr 0 0,.nil,.sl 1 (((g.events.take i).map (·.id)).foldl setI [] |>.map encI),.int .i64 i],[.box true (encGr g)],[]⟩) (fun i=>g.events.length - i) (fun i=>i ≤ g.events.length) 0 [0] (Nat.zero_le _) ?_ ?_
 ·simp only [mvcgen_simp,method_specs_simp,seval,encGr,List.foldl_nil]
 ·intro i hi
  have w1 : IntKind.i64.wrap ((i : Int) + 1) = ((i + 1 : Nat) : Int):=wadd1 i (by omega)
  refine CW.sound ?_
  simp only [method_specs_simp,seval,encGr]
  refine gB_split (fun h=>?_) (fun h=>?_)
  ·simp only [decide_eq_true_eq,Int.ofNat_lt] at h
   obtain ⟨e,he⟩ : ∃ e,g.events[i]? = some e:=⟨_,List.getElem?_eq_getElem h⟩
   have hnx : ((g.events.take (i + 1)).map (·.id)).foldl setI [] = setI (((g.events.take i).map (·.id)).foldl setI []) e.id:=by rw [List.take_add_one,he,Option.toList_some,List.map_append,List.map_singleton,hst]
   have hil:=hsl ((g.events.take i).map (·.id))
   rw [List.length_map,List.length_take] at hil
   simp only [method_specs_simp,seval,encGr,he,encEv]
   refine ⟨by omega,by omega,?_⟩
   refine clY.con (c_l03Set _ e.id (by omega)) ⟨of_eq_true (encI_refs _ _),trivial,trivial⟩ ?_
   rw [← hnx]
   simp only [method_specs_simp,seval,encGr,w1]
   refine Again.mk (i + 1) [0] h (Nat.sub_lt_sub_left h (Nat.lt_succ_self _)) ?_
   simp only [mvcgen_simp,method_specs_simp,seval,encGr]
  ·have hi2 : i = g.events.length:=by simp only [decide_eq_false_iff_not,Bool.not_true,Int.ofNat_lt] at h; omega
   rw [hi2,List.take_length]
   refine SW.seq (CW.sound ?_)
   simp only [method_specs_simp,seval,encGr]
   refine SW.while (A:=Nat) (fun i=>⟨pad 39 [.junk,.ptr 0 0,.nil,.sl 1 ((((g.events.map (·.id)) ++ (g.parked.take i).map (·.id)).foldl setI []).map encI),.junk,.int .i64 i],[.box true (encGr g)],[]⟩) (fun i=>g.parked.length - i) (fun i=>i ≤ g.parked.length) 0 [0] (Nat.zero_le _) ?_ ?_
   ·simp only [mvcgen_simp,method_specs_simp,seval,encGr,List.append_nil]
    try rfl
   ·clear hi h hi2 w1
    intro i hi
    have w1 : IntKind.i64.wrap ((i : Int) + 1) = ((i + 1 : Nat) : Int):=wadd1 i (by omega)
    refine CW.sound ?_
    simp only [method_specs_simp,seval,encGr]
    refine gB_split (fun h=>?_) (fun h=>?_)
    ·simp only [decide_eq_true_eq,Int.ofNat_lt] at h
     obtain ⟨e,he⟩ : ∃ e,g.parked[i]? = some e:=⟨_,List.getElem?_eq_getElem h⟩
     have hnx : ((g.events.map (·.id)) ++ (g.parked.take (i + 1)).map (·.id)).foldl setI [] = setI (((g.events.map (·.id)) ++ (g.parked.take i).map (·.id)).foldl setI []) e.id:=by rw [List.take_add_one,he,Option.toList_some,List.map_append,List.map_singleton,← List.append_assoc,hst]
     have hil:=hsl ((g.events.map (·.id)) ++ (g.parked.take i).map (·.id))
     rw [List.length_append,List.length_map,List.length_map,List.length_take] at hil
     simp only [method_specs_simp,seval,encGr,he,encEv]
     refine ⟨by omega,by omega,?_⟩
     refine clY.con (c_l03Set _ e.id (by omega)) ⟨of_eq_true (encI_refs _ _),trivial,trivial⟩ ?_
     rw [← hnx]
     simp only [method_specs_simp,seval,encGr,w1]
     refine Again.mk (i + 1) [0] h (Nat.sub_lt_sub_left h (Nat.lt_succ_self _)) ?_
     simp only [mvcgen_simp,method_specs_simp,seval,encGr]
    ·have hi2 : i = g.parked.length:=by simp only [decide_eq_false_iff_not,Bool.not_true,Int.ofNat_lt] at h; omega
     have hdl:=ddS_len (idsG g)
     have hil2 : (idsG g).length = g.events.length + g.parked.length:=by unfold idsG; rw [List.length_map,List.length_append]
     rw [hi2,List.take_length,hfin]
     refine CW.sound ?_
     simp only [method_specs_simp,seval,encGr]
     refine clY.con (c_l15Of (dd (srtI (idsG g))) (by omega)) ⟨of_eq_true (encI_refs _ _),trivial⟩ ?_
     simp only [method_specs_simp,seval,encGr]
     try rfl
theorem c_sHaveOf (g : Gr) (hg : GrOK g) (hr : Gm.grRight g = true) : Con P 78 [.agg (encGr g)] (.sl 2 ((hvS g).map encSn)):=by
 refine Con.of (n:=9) (rs:=[.tmp 2]) (Is.fn Try.func78) rfl (Is.call Try.call78) Try.results78 Try.ntmps78 (by simp only [method_specs_simp]) ?_
 simp only [method_specs_simp,seval,encGr]
 refine clY.con (c_sGraphRight g hg) (by simp only [method_specs_simp,encGr]) ?_
 rw [hr]
 simp only [method_specs_simp,seval,encGr]
 refine clY.con (c_l16Have g hg hr) (by simp only [method_specs_simp,encGr]) ?_
 simp only [method_specs_simp,seval,encGr]
theorem c_sHaveOfZ (g : Gr) (hg : GrOK g) (hr : Gm.grRight g = false) : Con P 78 [.agg (encGr g)] (.sl 2 (([] : List Spn).map encSn)):=by
 refine Con.of (n:=9) (rs:=[.tmp 2]) (Is.fn Try.func78) rfl (Is.call Try.call78) Try.results78 Try.ntmps78 trivial ?_
 simp only [method_specs_simp,seval]
 refine clY.con (c_sGraphRight g hg) (by simp only [method_specs_simp]) ?_
 simp only [method_specs_simp,seval,hr,List.map_nil]
theorem hvS_len {g : Gr} (hr : Gm.grRight g = true) : (hvS g).length ≤ 80:=by
 obtain ⟨h1,h2⟩:=right_few hr
 have hdl:=ddS_len (idsG g)
 have hil2 : (idsG g).length = g.events.length + g.parked.length:=by unfold idsG; rw [List.length_map,List.length_append]
 have:=spnL_len (dd (srtI (idsG g)))
 unfold hvS
 omega
theorem haveOf_law (g : Gr) (zs : List Spn) (hg : GrOK g) (hz : zs.length < 2 ^ 40) (h46 : Con P 78 [.agg (encGr g)] (.sl 2 (zs.map encSn))) (h47 : LCon P 79 [.agg (encGr g)] [] (.ar 0 0 zs.length) [.arr true 2 (zs.map encSn)]) :
  Con P 9 [.agg (encGr g)] (.bool true):=by
 refine Con.of (n:=69) (rs:=[.tmp 2]) (Is.fn Try.func9) rfl (Is.call Try.call9) Try.results9 Try.ntmps9 trivial ?_
 simp only [method_specs_simp,seval]
 refine clY.con (c_szGraph g 1048576 (by decide) (by decide) hg) (by simp only [method_specs_simp]) ?_
 simp only [method_specs_simp,seval]
 refine gB_split (fun _=>trivial) (fun w1=>?_)
 obtain ⟨q1,q2,q3⟩:=sb_yes (wG_nn g) w1
 refine clY.con (c_toGraph g hg) (by simp only [method_specs_simp]) ?_
 simp only [method_specs_simp,seval]
 refine clY.con (h46) (by simp only [method_specs_simp]) ?_
 simp only [method_specs_simp,seval]
 refine clY.newD 0 (n_toGraph g hg) (dcv_zero _ _) (by simp only [method_specs_simp]) (grV_flat 0 g) (obG_flat g) ?_
 obtain ⟨G,hG⟩ : ∃ G,G = obGb 1 g:=⟨_,rfl⟩
 obtain ⟨N,hN⟩ : ∃ N,N = g.events.length + 1 + (g.parked.length + 1):=⟨_,rfl⟩
 have hp : Past G N:=Past.mk' (by rw [hG,hN,obGb_len])
 have hA1 : ∀ L : List Ob,(G ++ L)[0]? = some (.arr true 9 (rowsEv 2 g.events)):=fun L=>by rw [hG]; rfl
 have hA2 : ∀ (a : Ob) (L : List Ob),(a :: (G ++ L))[1 + (g.events.length + 1)]? = some (.arr true 9 (rowsEv (1 + (g.events.length + 1) + 1) g.parked)):=fun a L=>by
  rw [hG]; exact obGb_one g a L
 simp only [method_specs_simp,seval,hp.len,hp.g0,hp.g,hp.b0,hp.b,hp.v0,hp.v,hp.a0,hp.a,hp.w0,hp.w,hp.s0,hp.s,List.append_assoc,List.cons_append,List.nil_append,obG_ren,grV,← hG,hA1,hA2]
 have hL : ∀ (a : Ob) (L : List Ob),LiesG (a :: (G ++ L)) 1 g:=fun a L=>LiesG.mk (A:=[a]) rfl (by rw [hG]; rfl)
 refine clY.newD 3 h47 ?_ ⟨encGr_ref1 _ g,trivial⟩ trivial (flat1 ⟨rfl,flat_spns _⟩) ?_
 ·show [dcv 3 _ (.agg (grV 1 g))] = _
  rw [(hL _ _).dcv]
 simp only [method_specs_simp,seval,hp.len,hp.g0,hp.g,hp.b0,hp.b,hp.v0,hp.v,hp.a0,hp.a,hp.w0,hp.w,hp.s0,hp.s,List.append_assoc,List.cons_append,List.nil_append]
 refine clY.conD 1 (c_eqSpanS zs (by omega)) ?_ ⟨of_eq_true (encSn_refs _ zs),of_eq_true (encSn_refs _ zs),trivial⟩ trivial ?_
 ·show [dcv 1 _ (.ar (N + 2) 0 zs.length),dcv 1 _ (.sl 2 (zs.map encSn))] = _
  rw [dcv_flat (zs:=zs.map encSn) (lv:=true) (sz:=2)]
  rfl
  simp only [method_specs_simp,seval,hp.len,hp.g0,hp.g,hp.b0,hp.b,hp.v0,hp.v,hp.a0,hp.a,hp.w0,hp.w,hp.s0,hp.s,List.append_assoc,List.cons_append,List.nil_append]
  rw [List.length_map]
 simp only [method_specs_simp,seval,hp.len,hp.g0,hp.g,hp.b0,hp.b,hp.v0,hp.v,hp.a0,hp.a,hp.w0,hp.w,hp.s0,hp.s,List.append_assoc,List.cons_append,List.nil_append]
 refine ⟨by kernel_rfl,?_⟩
 refine clY.con (c_toGraph g hg) (by simp only [method_specs_simp,hp.len,hp.g0,hp.g,hp.b0,hp.b,hp.v0,hp.v,hp.a0,hp.a,hp.w0,hp.w,hp.s0,hp.s,List.append_assoc,List.cons_append,List.nil_append]) ?_
 simp only [method_specs_simp,seval,hp.len,hp.g0,hp.g,hp.b0,hp.b,hp.v0,hp.v,hp.a0,hp.a,hp.w0,hp.w,hp.s0,hp.s,List.append_assoc,List.cons_append,List.nil_append]
 refine clY.conD 3 (c_eqGraph g hg) ?_ ⟨encGr_ref1 _ g,encGr_ref1 _ g,trivial⟩ trivial ?_
 ·show [dcv 3 _ (.agg (grV 1 g)),dcv 3 _ (.agg (encGr g))] = _
  rw [(hL _ _).dcv,dcv_encG]
 simp only [method_specs_simp,seval,hp.len,hp.g0,hp.g,hp.b0,hp.b,hp.v0,hp.v,hp.a0,hp.a,hp.w0,hp.w,hp.s0,hp.s,List.append_assoc,List.cons_append,List.nil_append,Bool.not_true]
 have b1:=wM_le g.events
 have b2:=wM_le g.parked
 have b3:=wM_nn g.events
 have b4:=wM_nn g.parked
 have hwG : wG g = (g.events.length + wEs g.events) + (g.parked.length + wEs g.parked):=rfl
 have hk : decide (1 + (wM g.events + wM g.parked) < 0) = false:=decide_eq_false (by omega)
 refine clY.segG1 hG (n_markGraph g 1 (by decide) (by decide) hg (by omega)) (mGr_len 1 g) trivial ⟨trivial,trivial⟩ (fun m=>by simp only [convs,conv]) ?_
 obtain ⟨G2,hG2⟩ : ∃ G2,G2 = obGb 1 (mGr 1 g):=⟨_,rfl⟩
 have hp2 : Past G2 N:=Past.mk' (by rw [hG2,hN,obGb_len]; simp only [mGr,mEvs_len])
 rw [← hG2]
 have hmi:=mSpns_len zs.length 1
 have hk2 : decide (1 + 2 * (zs.length : Int) < 0) = false:=decide_eq_false (by omega)
 simp only [method_specs_simp,seval,hk,hk2,bne_self_eq_false,Bool.not_true,hp2.len,hp2.g0,hp2.g,hp2.b0,hp2.b,hp2.v0,hp2.v,hp2.a0,hp2.a,hp2.w0,hp2.w,hp2.s0,hp2.s,List.append_assoc,List.cons_append,List.nil_append]
 refine clY.conD 1 (c_eqSpanS zs (by omega)) ?_ ⟨of_eq_true (encSn_refs _ zs),of_eq_true (encSn_refs _ zs),trivial⟩ trivial ?_
 ·show [dcv 1 _ (.ar (N + 2) 0 zs.length),dcv 1 _ (.sl 2 (zs.map encSn))] = _
  rw [dcv_flat (zs:=zs.map encSn) (lv:=true) (sz:=2)]
  rfl
  simp only [method_specs_simp,seval,hk,hk2,bne_self_eq_false,Bool.not_true,hp2.len,hp2.g0,hp2.g,hp2.b0,hp2.b,hp2.v0,hp2.v,hp2.a0,hp2.a,hp2.w0,hp2.w,hp2.s0,hp2.s,List.append_assoc,List.cons_append,List.nil_append]
  rw [List.length_map]
 simp only [method_specs_simp,seval,hk,hk2,bne_self_eq_false,Bool.not_true,hp2.len,hp2.g0,hp2.g,hp2.b0,hp2.b,hp2.v0,hp2.v,hp2.a0,hp2.a,hp2.w0,hp2.w,hp2.s0,hp2.s,List.append_assoc,List.cons_append,List.nil_append]
 refine clY.at1 (q:=N + 2) (n_markSpanS zs 1 (by decide) (by decide) (by omega)) ?_ (pure_spns _ _) (pure_spns _ _) trivial ⟨trivial,trivial⟩ (by simp only [convs,conv]) ?_
 ·simp only [method_specs_simp,seval,hk,hk2,bne_self_eq_false,Bool.not_true,hp2.len,hp2.g0,hp2.g,hp2.b0,hp2.b,hp2.v0,hp2.v,hp2.a0,hp2.a,hp2.w0,hp2.w,hp2.s0,hp2.s,List.append_assoc,List.cons_append,List.nil_append]
 simp only [method_specs_simp,seval,hk,hk2,bne_self_eq_false,Bool.not_true,hp2.len,hp2.g0,hp2.g,hp2.b0,hp2.b,hp2.v0,hp2.v,hp2.a0,hp2.a,hp2.w0,hp2.w,hp2.s0,hp2.s,List.append_assoc,List.cons_append,List.nil_append]
 refine clY.conD 1 (c_heldSpanS 1 zs.length (by decide) (by decide) (by omega)) ?_ ⟨of_eq_true (encSn_refs _ _),trivial,trivial⟩ trivial ?_
 ·show [dcv 1 _ (.ar (N + 2) 0 zs.length),dcv 1 _ (.int .i64 1)] = _
  rw [dcv_flat (zs:=(mSpns 1 zs.length).map encSn) (lv:=true) (sz:=2)]
  rfl
  simp only [method_specs_simp,seval,hk,hk2,bne_self_eq_false,Bool.not_true,hp2.len,hp2.g0,hp2.g,hp2.b0,hp2.b,hp2.v0,hp2.v,hp2.a0,hp2.a,hp2.w0,hp2.w,hp2.s0,hp2.s,List.append_assoc,List.cons_append,List.nil_append]
  rw [List.length_map,hmi]
 simp only [method_specs_simp,seval,hk,hk2,bne_self_eq_false,Bool.not_true,hp2.len,hp2.g0,hp2.g,hp2.b0,hp2.b,hp2.v0,hp2.v,hp2.a0,hp2.a,hp2.w0,hp2.w,hp2.s0,hp2.s,List.append_assoc,List.cons_append,List.nil_append]
 refine clY.con (c_toGraph g hg) (by simp only [method_specs_simp,hk,hk2,bne_self_eq_false,Bool.not_true,hp2.len,hp2.g0,hp2.g,hp2.b0,hp2.b,hp2.v0,hp2.v,hp2.a0,hp2.a,hp2.w0,hp2.w,hp2.s0,hp2.s,List.append_assoc,List.cons_append,List.nil_append]) ?_
 simp only [method_specs_simp,seval,hk,hk2,bne_self_eq_false,Bool.not_true,hp2.len,hp2.g0,hp2.g,hp2.b0,hp2.b,hp2.v0,hp2.v,hp2.a0,hp2.a,hp2.w0,hp2.w,hp2.s0,hp2.s,List.append_assoc,List.cons_append,List.nil_append]
 refine clY.newD 0 h47 (dcv_zero _ _) ⟨encGr_ref1 _ g,trivial⟩ trivial (flat1 ⟨rfl,flat_spns _⟩) ?_
 simp only [method_specs_simp,seval,hk,hk2,bne_self_eq_false,Bool.not_true,hp2.len,hp2.g0,hp2.g,hp2.b0,hp2.b,hp2.v0,hp2.v,hp2.a0,hp2.a,hp2.w0,hp2.w,hp2.s0,hp2.s,List.append_assoc,List.cons_append,List.nil_append]
 refine clY.conD 1 (c_eqSpanS zs (by omega)) ?_ ⟨of_eq_true (encSn_refs _ zs),of_eq_true (encSn_refs _ zs),trivial⟩ trivial ?_
 ·show [dcv 1 _ (.ar (N + 3) 0 zs.length),dcv 1 _ (.sl 2 (zs.map encSn))] = _
  rw [dcv_flat (zs:=zs.map encSn) (lv:=true) (sz:=2)]
  rfl
  simp only [method_specs_simp,seval,hk,hk2,bne_self_eq_false,Bool.not_true,hp2.len,hp2.g0,hp2.g,hp2.b0,hp2.b,hp2.v0,hp2.v,hp2.a0,hp2.a,hp2.w0,hp2.w,hp2.s0,hp2.s,List.append_assoc,List.cons_append,List.nil_append]
  rw [List.length_map]
 simp only [method_specs_simp,seval,hk,hk2,bne_self_eq_false,Bool.not_true,hp2.len,hp2.g0,hp2.g,hp2.b0,hp2.b,hp2.v0,hp2.v,hp2.a0,hp2.a,hp2.w0,hp2.w,hp2.s0,hp2.s,List.append_assoc,List.cons_append,List.nil_append]
 refine clY.conD 1 (c_heldSpanS 1 zs.length (by decide) (by decide) (by omega)) ?_ ⟨of_eq_true (encSn_refs _ _),trivial,trivial⟩ trivial ?_
 ·show [dcv 1 _ (.ar (N + 2) 0 zs.length),dcv 1 _ (.int .i64 1)] = _
  rw [dcv_flat (zs:=(mSpns 1 zs.length).map encSn) (lv:=true) (sz:=2)]
  rfl
  simp only [method_specs_simp,seval,hk,hk2,bne_self_eq_false,Bool.not_true,hp2.len,hp2.g0,hp2.g,hp2.b0,hp2.b,hp2.v0,hp2.v,hp2.a0,hp2.a,hp2.w0,hp2.w,hp2.s0,hp2.s,List.append_assoc,List.cons_append,List.nil_append]
  rw [List.length_map,hmi]
 simp only [method_specs_simp,seval,hk,hk2,bne_self_eq_false,Bool.not_true,hp2.len,hp2.g0,hp2.g,hp2.b0,hp2.b,hp2.v0,hp2.v,hp2.a0,hp2.a,hp2.w0,hp2.w,hp2.s0,hp2.s,List.append_assoc,List.cons_append,List.nil_append]
theorem haveOf_lawZ (g : Gr) (hg : GrOK g) (h46 : Con P 78 [.agg (encGr g)] (.sl 2 (([] : List Spn).map encSn))) (h47 : Con P 79 [.agg (encGr g)] .nil) :
  Con P 9 [.agg (encGr g)] (.bool true):=by
 refine Con.of (n:=69) (rs:=[.tmp 2]) (Is.fn Try.func9) rfl (Is.call Try.call9) Try.results9 Try.ntmps9 trivial ?_
 simp only [method_specs_simp,seval]
 refine clY.con (c_szGraph g 1048576 (by decide) (by decide) hg) (by simp only [method_specs_simp]) ?_
 simp only [method_specs_simp,seval]
 refine gB_split (fun _=>trivial) (fun w1=>?_)
 obtain ⟨q1,q2,q3⟩:=sb_yes (wG_nn g) w1
 refine clY.con (c_toGraph g hg) (by simp only [method_specs_simp]) ?_
 simp only [method_specs_simp,seval]
 refine clY.con (h46) (by simp only [method_specs_simp]) ?_
 simp only [method_specs_simp,seval]
 refine clY.newD 0 (n_toGraph g hg) (dcv_zero _ _) (by simp only [method_specs_simp]) (grV_flat 0 g) (obG_flat g) ?_
 obtain ⟨G,hG⟩ : ∃ G,G = obGb 1 g:=⟨_,rfl⟩
 obtain ⟨N,hN⟩ : ∃ N,N = g.events.length + 1 + (g.parked.length + 1):=⟨_,rfl⟩
 have hp : Past G N:=Past.mk' (by rw [hG,hN,obGb_len])
 have hA1 : ∀ L : List Ob,(G ++ L)[0]? = some (.arr true 9 (rowsEv 2 g.events)):=fun L=>by rw [hG]; rfl
 have hA2 : ∀ (a : Ob) (L : List Ob),(a :: (G ++ L))[1 + (g.events.length + 1)]? = some (.arr true 9 (rowsEv (1 + (g.events.length + 1) + 1) g.parked)):=fun a L=>by
  rw [hG]; exact obGb_one g a L
 simp only [method_specs_simp,seval,hp.len,hp.g0,hp.g,hp.b0,hp.b,hp.v0,hp.v,hp.a0,hp.a,hp.w0,hp.w,hp.s0,hp.s,List.append_assoc,List.cons_append,List.nil_append,obG_ren,grV,← hG,hA1,hA2]
 have hL : ∀ (a : Ob) (L : List Ob),LiesG (a :: (G ++ L)) 1 g:=fun a L=>LiesG.mk (A:=[a]) rfl (by rw [hG]; rfl)
 refine clY.conD 3 h47 ?_ ⟨encGr_ref1 _ g,trivial⟩ trivial ?_
 ·show [dcv 3 _ (.agg (grV 1 g))] = _
  rw [(hL _ _).dcv]
 simp only [method_specs_simp,seval,hp.len,hp.g0,hp.g,hp.b0,hp.b,hp.v0,hp.v,hp.a0,hp.a,hp.w0,hp.w,hp.s0,hp.s,List.append_assoc,List.cons_append,List.nil_append]
 refine clY.con (c_eqNilS) (by simp only [method_specs_simp,hp.len,hp.g0,hp.g,hp.b0,hp.b,hp.v0,hp.v,hp.a0,hp.a,hp.w0,hp.w,hp.s0,hp.s,List.append_assoc,List.cons_append,List.nil_append]) ?_
 simp only [method_specs_simp,seval,hp.len,hp.g0,hp.g,hp.b0,hp.b,hp.v0,hp.v,hp.a0,hp.a,hp.w0,hp.w,hp.s0,hp.s,List.append_assoc,List.cons_append,List.nil_append]
 refine ⟨by kernel_rfl,?_⟩
 refine clY.con (c_toGraph g hg) (by simp only [method_specs_simp,hp.len,hp.g0,hp.g,hp.b0,hp.b,hp.v0,hp.v,hp.a0,hp.a,hp.w0,hp.w,hp.s0,hp.s,List.append_assoc,List.cons_append,List.nil_append]) ?_
 simp only [method_specs_simp,seval,hp.len,hp.g0,hp.g,hp.b0,hp.b,hp.v0,hp.v,hp.a0,hp.a,hp.w0,hp.w,hp.s0,hp.s,List.append_assoc,List.cons_append,List.nil_append]
 refine clY.conD 3 (c_eqGraph g hg) ?_ ⟨encGr_ref1 _ g,encGr_ref1 _ g,trivial⟩ trivial ?_
 ·show [dcv 3 _ (.agg (grV 1 g)),dcv 3 _ (.agg (encGr g))] = _
  rw [(hL _ _).dcv,dcv_encG]
 simp only [method_specs_simp,seval,hp.len,hp.g0,hp.g,hp.b0,hp.b,hp.v0,hp.v,hp.a0,hp.a,hp.w0,hp.w,hp.s0,hp.s,List.append_assoc,List.cons_append,List.nil_append,Bool.not_true]
 have b1:=wM_le g.events
 have b2:=wM_le g.parked
 have b3:=wM_nn g.events
 have b4:=wM_nn g.parked
 have hwG : wG g = (g.events.length + wEs g.events) + (g.parked.length + wEs g.parked):=rfl
 have hk : decide (1 + (wM g.events + wM g.parked) < 0) = false:=decide_eq_false (by omega)
 refine clY.segG1 hG (n_markGraph g 1 (by decide) (by decide) hg (by omega)) (mGr_len 1 g) trivial ⟨trivial,trivial⟩ (fun m=>by simp only [convs,conv]) ?_
 obtain ⟨G2,hG2⟩ : ∃ G2,G2 = obGb 1 (mGr 1 g):=⟨_,rfl⟩
 have hp2 : Past G2 N:=Past.mk' (by rw [hG2,hN,obGb_len]; simp only [mGr,mEvs_len])
 rw [← hG2]
 simp only [method_specs_simp,seval,hk,bne_self_eq_false,Bool.not_true,hp2.len,hp2.g0,hp2.g,hp2.b0,hp2.b,hp2.v0,hp2.v,hp2.a0,hp2.a,hp2.w0,hp2.w,hp2.s0,hp2.s,List.append_assoc,List.cons_append,List.nil_append]
 refine clY.con (c_eqNilS) (by simp only [method_specs_simp,hk,bne_self_eq_false,Bool.not_true,hp2.len,hp2.g0,hp2.g,hp2.b0,hp2.b,hp2.v0,hp2.v,hp2.a0,hp2.a,hp2.w0,hp2.w,hp2.s0,hp2.s,List.append_assoc,List.cons_append,List.nil_append]) ?_
 simp only [method_specs_simp,seval,hk,bne_self_eq_false,Bool.not_true,hp2.len,hp2.g0,hp2.g,hp2.b0,hp2.b,hp2.v0,hp2.v,hp2.a0,hp2.a,hp2.w0,hp2.w,hp2.s0,hp2.s,List.append_assoc,List.cons_append,List.nil_append]
 refine clY.con (c_markNilS 1) (by simp only [method_specs_simp,hk,bne_self_eq_false,Bool.not_true,hp2.len,hp2.g0,hp2.g,hp2.b0,hp2.b,hp2.v0,hp2.v,hp2.a0,hp2.a,hp2.w0,hp2.w,hp2.s0,hp2.s,List.append_assoc,List.cons_append,List.nil_append]) ?_
 simp only [method_specs_simp,seval,hk,bne_self_eq_false,Bool.not_true,hp2.len,hp2.g0,hp2.g,hp2.b0,hp2.b,hp2.v0,hp2.v,hp2.a0,hp2.a,hp2.w0,hp2.w,hp2.s0,hp2.s,List.append_assoc,List.cons_append,List.nil_append]
 refine clY.con (c_heldNilS 1 (by decide) (by decide)) (by simp only [method_specs_simp,hk,bne_self_eq_false,Bool.not_true,hp2.len,hp2.g0,hp2.g,hp2.b0,hp2.b,hp2.v0,hp2.v,hp2.a0,hp2.a,hp2.w0,hp2.w,hp2.s0,hp2.s,List.append_assoc,List.cons_append,List.nil_append]) ?_
 simp only [method_specs_simp,seval,hk,bne_self_eq_false,Bool.not_true,hp2.len,hp2.g0,hp2.g,hp2.b0,hp2.b,hp2.v0,hp2.v,hp2.a0,hp2.a,hp2.w0,hp2.w,hp2.s0,hp2.s,List.append_assoc,List.cons_append,List.nil_append]
 refine clY.con (c_toGraph g hg) (by simp only [method_specs_simp,hk,bne_self_eq_false,Bool.not_true,hp2.len,hp2.g0,hp2.g,hp2.b0,hp2.b,hp2.v0,hp2.v,hp2.a0,hp2.a,hp2.w0,hp2.w,hp2.s0,hp2.s,List.append_assoc,List.cons_append,List.nil_append]) ?_
 simp only [method_specs_simp,seval,hk,bne_self_eq_false,Bool.not_true,hp2.len,hp2.g0,hp2.g,hp2.b0,hp2.b,hp2.v0,hp2.v,hp2.a0,hp2.a,hp2.w0,hp2.w,hp2.s0,hp2.s,List.append_assoc,List.cons_append,List.nil_append]
 refine clY.con (h47) (by simp only [method_specs_simp,hk,bne_self_eq_false,Bool.not_true,hp2.len,hp2.g0,hp2.g,hp2.b0,hp2.b,hp2.v0,hp2.v,hp2.a0,hp2.a,hp2.w0,hp2.w,hp2.s0,hp2.s,List.append_assoc,List.cons_append,List.nil_append]) ?_
 simp only [method_specs_simp,seval,hk,bne_self_eq_false,Bool.not_true,hp2.len,hp2.g0,hp2.g,hp2.b0,hp2.b,hp2.v0,hp2.v,hp2.a0,hp2.a,hp2.w0,hp2.w,hp2.s0,hp2.s,List.append_assoc,List.cons_append,List.nil_append]
 refine clY.con (c_eqNilS) (by simp only [method_specs_simp,hk,bne_self_eq_false,Bool.not_true,hp2.len,hp2.g0,hp2.g,hp2.b0,hp2.b,hp2.v0,hp2.v,hp2.a0,hp2.a,hp2.w0,hp2.w,hp2.s0,hp2.s,List.append_assoc,List.cons_append,List.nil_append]) ?_
 simp only [method_specs_simp,seval,hk,bne_self_eq_false,Bool.not_true,hp2.len,hp2.g0,hp2.g,hp2.b0,hp2.b,hp2.v0,hp2.v,hp2.a0,hp2.a,hp2.w0,hp2.w,hp2.s0,hp2.s,List.append_assoc,List.cons_append,List.nil_append]
 refine clY.con (c_heldNilS 1 (by decide) (by decide)) (by simp only [method_specs_simp,hk,bne_self_eq_false,Bool.not_true,hp2.len,hp2.g0,hp2.g,hp2.b0,hp2.b,hp2.v0,hp2.v,hp2.a0,hp2.a,hp2.w0,hp2.w,hp2.s0,hp2.s,List.append_assoc,List.cons_append,List.nil_append]) ?_
 simp only [method_specs_simp,seval,hk,bne_self_eq_false,Bool.not_true,hp2.len,hp2.g0,hp2.g,hp2.b0,hp2.b,hp2.v0,hp2.v,hp2.a0,hp2.a,hp2.w0,hp2.w,hp2.s0,hp2.s,List.append_assoc,List.cons_append,List.nil_append]
theorem c_FnExactHaveOf (g : Gr) (hg : GrOK g) : Con P 9 [.agg (encGr g)] (.bool true):=by
 cases hr : Gm.grRight g with
 | true=>exact haveOf_law g (hvS g) hg (by have:=hvS_len hr; omega) (c_sHaveOf g hg hr) (n_HaveOf g hg hr)
 | false=>exact haveOf_lawZ g hg (c_sHaveOfZ g hg hr) (c_HaveOfZ g hg hr)
end
end Go.Proofs.Ytdkgiboofhlilaa
end

section
namespace Go.Proofs.Ytdkgiboofhlilaa
set_option maxRecDepth 100000
theorem and_mk {a b : Bool} (ha : a = true) (hb : b = true) : (a && b) = true:=by rw [ha,hb]; rfl
theorem p_own : ownKnob Try.prog.godebug = none:=by kernel_rfl
theorem p_laid : laidOutB Try.prog = true:=by kernel_rfl
theorem p_maps : mapsRowed Try.prog = true:=by kernel_rfl
theorem p_stops : (Try.prog.stops == []) = true:=by kernel_rfl
theorem p_knobs : (Try.prog.stopKnobs == []) = true:=by kernel_rfl
theorem p_keys : Try.prog.plainKeys = true:=by kernel_rfl
theorem p_heard : Try.prog.stopsHeard = true:=by kernel_rfl
theorem p_enter : Try.prog.mayEnter = true:=by kernel_rfl
end Go.Proofs.Ytdkgiboofhlilaa
end
