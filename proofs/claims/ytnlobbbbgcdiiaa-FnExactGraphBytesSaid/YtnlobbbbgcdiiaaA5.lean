/- The law of EventAt: for every graph and id. No conditions but the sizes that an input has. The law of SortOf: for every graph. No conditions but the sizes that an input has. The abstract machine: drawn regions in which looks at what nobody writes any more may come late. The abstract machine: what an array holds is told anew, where it names what is frozen. Putting events into graphs: what comes of it. No program in sight. Graphs into which events are put, in whatever order: what they come to. No program in sight. Graphs merged: the same whichever takes in the other one; a graph out of its events in any order. No program in sight. Strings of bytes; numbers in bytes. No conditions but bounds of numbers. Numbers in bytes: the plain law of the decoding of a number. No conditions but bounds of numbers. Decoding of numbers and of texts, of the reference and of the program. No conditions but bounds of sizes. Readers of numbers and of texts, of the reference and of the program. No conditions but bounds of sizes. Texts of numbers and texts: what is put is read. No conditions but bounds of numbers. Checksums, seals, what an event and a graph are in bytes. No conditions. Graphs in bytes: what is put is read, by either model's reader. No conditions. Numbers and texts put, checksums and seals: both models. Conditions: sizes and bounds of numbers. Events in bytes: both models. Conditions: sizes that an input has. Graphs in bytes: both models. Conditions: sizes that an input has. The law of  -/
import Derived.Test.YtnlobbbbgcdiiaaRows
import Derived.WalkKit
import Derived.ProofKit
import Derived.OpenShut
import Derived.ShutString
import Derived.ChangeOld
import Derived.Below
import Derived.SizedLaws
import Derived.Test.YtnlobbbbgcdiiaaA4
set_option linter.unusedSimpArgs false
set_option linter.unusedVariables false
set_option maxRecDepth 10000
set_option maxHeartbeats 4000000
open List renaming length_append → Za, append_assoc → Zc, getElem?_eq_getElem → Zd, mem_of_getElem? → Zf, all_eq_true → Zi, getElem?_eq_some_iff → Zl, mem_cons → Zm, mem_cons_self → Zn, mem_cons_of_mem → Zp, getElem?_of_mem → Zq, map_cons → Zr, take_of_length_le → Zs, getElem?_map → Zt, getElem?_set_ne → Zu, length_cons → Zx, cons_append → Zy, nil_append → Zz, replicate → ZB, getElem?_append_right → ZC, mem_map → ZD, getElem?_set_self → ZE, not_mem_nil → ZG, map_map → ZH, mem_append → ZJ, take_zero → ZO, append_nil → ZP, take_length → ZQ, map_append → ZR, getElem?_append_left → ZS, map_nil → ZT, getElem?_toArray → ZU, getElem?_replicate → ZV, mem_range → ZX, getD_eq_getElem?_getD → ZY, getElem?_eq_none → ZZ, length_take → Ya, mem_of_mem_eraseIdx → Yb, getElem?_eraseIdx → Yc, map_id → Yd, take_add_one → Ye, flatten_nil → Yg, getElem?_cons_succ → Yh, replicate_append_replicate → Yj, replicate_succ → Yk, eq_nil_iff_forall_not_mem → Ym, eraseIdx_sublist → Yp, map_congr_left → Yq, mem_singleton → Yr, mem_of_mem_take → Yt, flatten_cons → Yu
open Bool renaming and_eq_true → Zb, not_true → Zh, or_eq_false_iff → ZL, false_eq_true → ZM
open Int renaming ofNat_lt → Ze, fdiv_eq_ediv_of_nonneg → ZN
open Array renaming getD_eq_getD_getElem? → Zg, getElem?_eq_getElem → Zv, getElem?_eq_some_iff → ZF, mem_toList_iff → ZW, getElem?_toList → Yi, getElem?_eq_none → Yl, getElem?_setIfInBounds → Yn, getElem?_replicate → Yo
open Nat renaming le_refl → Zj, zero_le → Zk, eq_of_beq_eq_true → Zw, beq → ZA, add_sub_cancel_left → ZI, le_trans → ZK, sub_lt_sub_left → Ys
open Option renaming toList_some → Yf
section
namespace Go.Proofs.Ytnlobbbbgcdiiaa
open Go.Pm
open Go.Gm (Ev Gr)
structure Past (G : List Ob) (N : Nat) : Prop where
 len : G.length = N
 g0 : ∀ L : List Ob,(G ++ L)[N]? = L[0]?
 g : ∀ (L : List Ob) (k : Nat),(G ++ L)[N + k]? = L[k]?
 b0 : ∀ L : List Ob,boxAt (G ++ L) N = boxAt L 0
 b : ∀ (L : List Ob) (k : Nat),boxAt (G ++ L) (N + k) = boxAt L k
 v0 : ∀ L : List Ob,boxLv (G ++ L) N = boxLv L 0
 v : ∀ (L : List Ob) (k : Nat),boxLv (G ++ L) (N + k) = boxLv L k
 a0 : ∀ L : List Ob,arrAt (G ++ L) N = arrAt L 0
 a : ∀ (L : List Ob) (k : Nat),arrAt (G ++ L) (N + k) = arrAt L k
 w0 : ∀ L : List Ob,arrLv (G ++ L) N = arrLv L 0
 w : ∀ (L : List Ob) (k : Nat),arrLv (G ++ L) (N + k) = arrLv L k
 s0 : ∀ (L : List Ob) (o : Ob),(G ++ L).set N o = G ++ L.set 0 o
 s : ∀ (L : List Ob) (k : Nat) (o : Ob),(G ++ L).set (N + k) o = G ++ L.set k o
theorem Past.mk' {G : List Ob} {N : Nat} (h : G.length = N) : Past G N:=by
 have g : ∀ (L : List Ob) (k : Nat),(G ++ L)[N + k]? = L[k]?:=fun L k=>by
  rw [ZC (by omega),h,ZI]
 have g0 : ∀ L : List Ob,(G ++ L)[N]? = L[0]?:=fun L=>g L 0
 have s : ∀ (L : List Ob) (k : Nat) (o : Ob),(G ++ L).set (N + k) o = G ++ L.set k o:=fun L k o=>by
  rw [List.set_append_right _ _ (by omega),h,ZI]
 exact ⟨h,g0,g,fun L=>by unfold boxAt; rw [g0],fun L k=>by unfold boxAt; rw [g],fun L=>by unfold boxLv; rw [g0],fun L k=>by unfold boxLv; rw [g],fun L=>by unfold arrAt; rw [g0],fun L k=>by unfold arrAt; rw [g],fun L=>by unfold arrLv; rw [g0],fun L k=>by unfold arrLv; rw [g],fun L o=>s L 0 o,s⟩
def obGb (b : Nat) (g : Gr) : List Ob:=obEb b g.events ++ obEb (b + (g.events.length + 1)) g.parked
theorem obG_ren (b : Nat) (g : Gr) : (obG g).map (Ob.ren (b + ·)) = obGb b g:=by
 unfold obG obGb
 rw [ZR,obE_ren,obEb_ren]
theorem obGb_len (b : Nat) (g : Gr) : (obGb b g).length = g.events.length + 1 + (g.parked.length + 1):=by simp [obGb,obEb_len]
def LiesG (m : List Ob) (b : Nat) (g : Gr) : Prop:=∀ i ob,(obGb b g)[i]? = some ob → m[b + i]? = some ob
theorem LiesG.mk {A C m : List Ob} {b : Nat} {g : Gr} (h : A.length = b) (em : m = A ++ (obGb b g ++ C)) : LiesG m b g:=fun i ob hi=>by
 subst em; subst h
 rw [ZC (by omega),ZI,ZS (Zl.1 hi).1]
 exact hi
theorem dcv_row {m : List Ob} {q : Nat} {e : Ev} (h : m[q]? = some (obI e)) : (rowEv q e).map (dcv 1 m) = encEv e:=by
 simp only [rowEv,Zr,ZT,dcv,h,obI,encEv,List.drop_zero]
 rw [Zs (by simp)]
 congr 9
 simp only [List.map_id',List.map_id_fun']
 try simp
theorem dcv_encG (m : List Ob) (n : Nat) (g : Gr) : dcv (n + 2) m (.agg (encGr g)) = .agg (encGr g):=rfl
theorem dcv_rows {m : List Ob} : ∀ (l : List Ev) (q : Nat),(∀ i e,l[i]? = some e → m[q + i]? = some (obI e)) → (rowsEv q l).map (fun c=>c.map (dcv 1 m)) = l.map encEv
 | [],q,h=>rfl
 | e :: l,q,h=>by
   simp only [rowsEv,Zr]
   rw [dcv_row (q:=q) (h 0 e rfl),dcv_rows l (q + 1) fun i x hi=>by rw [Nat.add_assoc,Nat.add_comm 1 i]; exact h (i + 1) x hi]
theorem dcv_evs {m : List Ob} {b : Nat} {l : List Ev} (h : ∀ i ob,(obEb b l)[i]? = some ob → m[b + i]? = some ob) : dcv 2 m (.ar b 0 l.length) = .sl 9 (l.map encEv):=by
 have h0:=h 0 _ rfl
 rw [Nat.add_zero] at h0
 simp only [dcv,h0,List.drop_zero]
 rw [Zs (by rw [rowsEv_len]; exact Zj _)]
 congr 1
 refine dcv_rows l (b + 1) fun i e hi=>?_
 rw [Nat.add_assoc,Nat.add_comm 1 i]
 refine h (i + 1) _ ?_
 unfold obEb
 rw [Yh,Zt,hi]; rfl
theorem LiesG.dcv {m : List Ob} {b : Nat} {g : Gr} (h : LiesG m b g) : Go.Pm.dcv 3 m (.agg (grV b g)) = .agg (encGr g):=by
 have h1 : Go.Pm.dcv 2 m (.ar b 0 g.events.length) = .sl 9 (g.events.map encEv):=dcv_evs fun i ob hi=>h i ob (by
  unfold obGb
  rw [ZS (Zl.1 hi).1]; exact hi)
 have h2 : Go.Pm.dcv 2 m (.ar (b + (g.events.length + 1)) 0 g.parked.length) = .sl 9 (g.parked.map encEv):=dcv_evs fun i ob hi=>by
  have:=h (g.events.length + 1 + i) ob (by
   unfold obGb
   rw [ZC (by rw [obEb_len]; omega),obEb_len,ZI]; exact hi)
  rw [← this]; congr 1; omega
 show V.agg [Go.Pm.dcv 2 m (.int .i64 g.room),Go.Pm.dcv 2 m (.ar b 0 g.events.length),Go.Pm.dcv 2 m (.ar (b + (g.events.length + 1)) 0 g.parked.length)] = _
 rw [h1,h2]; rfl
theorem obGb_at (g : Gr) (b : Nat) (L : List Ob) : (obGb b g ++ L)[g.events.length + 1]? = some (.arr true 9 (rowsEv (b + (g.events.length + 1) + 1) g.parked)):=by
 unfold obGb
 rw [Zc,ZC (by rw [obEb_len]; omega),obEb_len,Nat.sub_self]
 rfl
theorem obGb_one (g : Gr) (a : Ob) (L : List Ob) : (a :: (obGb 1 g ++ L))[1 + (g.events.length + 1)]? = some (.arr true 9 (rowsEv (1 + (g.events.length + 1) + 1) g.parked)):=by
 rw [show 1 + (g.events.length + 1) = (g.events.length + 1) + 1 by omega,Yh,obGb_at]
 rw [show 1 + (g.events.length + 1) = g.events.length + 1 + 1 by omega]
theorem obEb_flat (b : Nat) (l : List Ev) : ∀ ob ∈ obEb b l,ob.flat:=fun ob ho=>by
 rcases Zm.1 ho with rfl | ho
 ·refine ⟨rfl,?_⟩
  have : ∀ q (l : List Ev),Flatss (rowsEv q l):=fun q l=>by
   induction l generalizing q with
   | nil=>trivial
   | cons e l ih=>exact ⟨⟨trivial,trivial,trivial,trivial,trivial,trivial,trivial,trivial,trivial,trivial⟩,ih (q + 1)⟩
  exact this _ l
 ·obtain ⟨e,_,rfl⟩:=ZD.1 ho
  exact ⟨rfl,flat_ints _⟩
theorem obG_flat (g : Gr) : ∀ ob ∈ obG g,ob.flat:=fun ob ho=>by
 rcases ZJ.1 ho with ho | ho
 ·exact obE_flat _ ob ho
 ·exact obEb_flat _ _ ob ho
theorem grV_flat (b : Nat) (g : Gr) : Flat (.agg (grV b g)):=⟨trivial,trivial,trivial,trivial⟩
theorem right_in {g : Gr} (hr : Gm.grRight g = true) : ∀ e ∈ g.events,Gm.allIn g.events e = true:=fun e he=>by
 simp only [Gm.grRight,Zb,Zi] at hr
 exact (hr.2.2.2.1 e he).1
theorem right_pos {g : Gr} (hr : Gm.grRight g = true) : ∀ x ∈ Gm.depthsE g.events,1 ≤ x:=fun x hx=>by
 have h0:=(Gm.depths_ok g.events).nn x hx
 simp only [Gm.grRight,Zb,Zi] at hr
 have:=hr.2.2.2.2.2
 rw [Gm.allPos,Zi] at this
 have:=this x hx
 have hne : x ≠ 0:=by simpa using this
 omega
end Go.Proofs.Ytnlobbbbgcdiiaa
end
section
section
namespace Go.Pm
open Go.RowKit
inductive RdB {α : Type} (B : Nat → Prop) : Sem α → Prop
 | pure (a : α) : RdB B (.pure a)
 | load {m : Mode} {a : Addr} {k : Value → Sem α} : B a.block → (∀ v,RdB B (k v)) → RdB B (.load m a k)
 | shape {r : Nat} {k : Option (TypeId × Nat) → Sem α} : B r → (∀ v,RdB B (k v)) → RdB B (.shape r k)
 | program {k : Program → Sem α} : (∀ p,RdB B (k p)) → RdB B (.program k)
 | obj {r : Nat} {k : Obj → Sem α} : B r → (∀ o,RdB B (k o)) → RdB B (.getObj r k)
 | halt (h : Halt) : RdB B (.halt h)
 | never {s : Sem α} (h : ∀ (P : Program) (w : World) (x : α) (w1 : World),s.run P w ≠ .ok x w1) : RdB B s
theorem RdB.bind {α β : Type} {B : Nat → Prop} {s : Sem α} {f : α → Sem β} (hs : RdB B s) (hf : ∀ a,RdB B (f a)) : RdB B (s.bind f):=by
 induction hs with
 | pure a=>exact hf a
 | load hb _ ih=>exact .load hb fun v=>ih v
 | shape hb _ ih=>exact .shape hb fun v=>ih v
 | program _ ih=>exact .program fun v=>ih v
 | obj hb _ ih=>exact .obj hb fun v=>ih v
 | halt h=>exact .halt h
 | @never s h =>
  refine .never fun P w x w1 e=>?_
  have e : (s >>= f).run P w = .ok x w1:=e
  rw [Sem.run_bind] at e
  cases hs : s.run P w with
  | ok y w2=>exact h P w y w2 hs
  | halt y w2=>rw [hs] at e; cases e
def SameB (w w' : World) (b : Nat) : Prop:=w'.heap[b]? = w.heap[b]? ∧ ∃ us e fr,w.heap[b]? = some (.cells us e fr)
theorem RdB.run {α : Type} {B : Nat → Prop} {s : Sem α} (hs : RdB B s) {P : Program} {w w' w1 : World} {x : α} (hk : ∀ b,B b → SameB w w' b) (h : s.run P w = .ok x w1) : w1 = w ∧ s.run P w' = .ok x w':=by
 induction hs with
 | pure a =>
  simp only [Sem.run] at h ⊢
  injection h with h1 h2
  exact ⟨h2.symm,by rw [h1]⟩
 | @load m a k hb _ ih =>
  obtain ⟨e1,us,el,fr,e2⟩:=hk _ hb
  have hc : w'.cell? a = w.cell? a:=by unfold World.cell?; rw [e1]
  simp only [Sem.run] at h ⊢
  rw [hc]
  cases hv : w.cell? a with
  | some v=>rw [hv] at h; exact ih v h
  | none =>
   exfalso
   rw [hv] at h
   simp only at h
   unfold World.farLoad at h
   rw [e2] at h
   cases h
 | @shape r k hb _ ih =>
  simp only [Sem.run] at h ⊢
  have : w'.shape? r = w.shape? r:=by unfold World.shape?; rw [(hk _ hb).1]
  rw [this]
  exact ih _ h
 | @program k _ ih =>
  simp only [Sem.run] at h ⊢
  exact ih _ h
 | @obj r k hb _ ih =>
  simp only [Sem.run] at h ⊢
  rw [(hk _ hb).1]
  split at h
  ·cases h
  ·rename_i o hn ho
   exact ih _ h
  ·cases h
 | halt e=>simp only [Sem.run] at h; cases h
 | never hn=>exact absurd h (hn _ _ _ _)
section
variable {B : Nat → Prop}
theorem rb_program : RdB B program:=.program fun p=>.pure p
theorem rb_typeInfo (t : TypeId) : RdB B (typeInfo t):=rb_program.bind fun p=>by
 split
 ·exact .pure _
 ·exact .halt _
theorem rb_underlying (t : TypeId) : RdB B (underlying t):=rb_program.bind fun p=>by
 split
 ·exact .pure _
 ·exact .halt _
theorem rb_sizeOf (t : TypeId) : RdB B (sizeOf t):=(rb_typeInfo t).bind fun i=>.pure _
theorem rb_isAgg (t : TypeId) : RdB B (isAgg t):=(rb_underlying t).bind fun d=>by
 split <;> exact .pure _
theorem rb_load {a : Addr} (h : B a.block) : RdB B (load a):=.load h fun v=>.pure v
theorem add_block (a : Addr) (n : Nat) : (a.add n).block = a.block:=by
 unfold Addr.add
 split <;> rfl
theorem rb_loadCells {a : Addr} (h : B a.block) : ∀ (n i : Nat) (acc : Array Value),RdB B (loadCellsFrom a i n acc)
 | 0,i,acc=>.pure _
 | n + 1,i,acc=>(rb_load (by rw [add_block]; exact h)).bind fun v=>rb_loadCells h n (i + 1) _
theorem rb_loadVar (t : TypeId) {a : Addr} (h : B a.block) : RdB B (loadVar t a):=(rb_isAgg t).bind fun b=>by
 cases b
 ·exact rb_load h
 ·exact (rb_sizeOf t).bind fun n=>(rb_loadCells h n 0 #[]).bind fun cs=>.pure _
theorem rb_loadAt (t : TypeId) {a : Addr} (h : B a.block) : RdB B (Instr.loadAt t (.pointer (some a))):=by
 show RdB B (loadVar t a)
 exact rb_loadVar t h
theorem rb_noView {a : Addr} (h : B a.block) : RdB B (noView a):=by
 unfold noView
 refine RdB.bind ?_ fun x=>?_
 ·unfold viewAt
  refine RdB.bind (.shape h fun v=>.pure v) fun y=>?_
  split
  ·exact .pure _
  ·show RdB B (Sem.getObj a.block fun o=>(Sem.pure o).bind _)
   refine .obj h fun o=>?_
   simp only [Sem.bind]
   split <;> exact .pure _
 ·split
  ·exact .halt _
  ·exact .pure _
theorem rb_byteOf {a : Addr} (h : B a.block) : RdB B (byteOf a):=by
 unfold byteOf
 split
 ·exact .pure _
 ·refine rb_program.bind fun p=>(rb_noView h).bind fun _=>?_
  refine RdB.bind (.shape h fun v=>.pure v) fun x=>?_
  split
  ·simp only
   split
   ·exact .pure _
   ·split
    ·exact .pure _
    ·exact .halt _
  ·exact .halt _
theorem rb_fieldPlace {a : Addr} (h : B a.block) (f : Field) : RdB B (fieldPlace a f):=by
 unfold fieldPlace
 refine (rb_sizeOf _).bind fun n=>?_
 split
 ·unfold partAt
  exact (rb_byteOf h).bind fun b=>(rb_byteOf (by first | exact h | (rw [add_block]; exact h))).bind fun b2=>.pure _
 ·exact .pure _
theorem rb_fieldAt (s : TypeId) {a : Addr} (h : B a.block) (i : Nat) : RdB B (Instr.fieldAt s (.pointer (some a)) i):=by
 unfold Instr.fieldAt
 refine (rb_underlying s).bind fun d=>?_
 split
 ·split
  ·exact (rb_fieldPlace h _).bind fun a=>.pure _
  ·exact .halt _
 ·exact .halt _
theorem rb_extract (v : Value) (i : Nat) : RdB B (Instr.extract v i):=by
 unfold Instr.extract
 split
 ·split
  ·exact .pure _
  ·exact .halt _
 ·exact .halt _
theorem rb_asIntOf (v : Value) : RdB B (asIntOf v):=by
 unfold asIntOf
 split
 ·exact .pure _
 ·exact .halt _
 ·exact .halt _
theorem rb_sureAddr (v : Value) : RdB B (Instr.sureAddr v):=by
 unfold Instr.sureAddr
 split
 ·exact .pure _
 ·exact .halt _
theorem never_rt {α : Type} (a b : Int) (s : Bool) (c : BoundsCode) (P : Program) (w : World) (r : α) (w1 : World) : (runtimePanic (.bounds a b s c) : Sem α).run P w ≠ .ok r w1:=fun e=>by
 unfold runtimePanic goPanic at e
 rw [Sem.run_bind] at e
 cases hs : Sem.run P program w with
 | ok y w2=>rw [hs] at e; cases e
 | halt y w2=>rw [hs] at e; cases e
theorem never_bounds {α : Type} (k : IntKind) (x y : Int) (c : BoundsCode) : RdB B (boundsPanic (α:=α) k x y c):=.never fun P w r w1 e=>by
 unfold boundsPanic at e
 simp only at e
 split at e
 ·rw [Sem.run_bind] at e
  cases hs : Sem.run P ((fun x => x == 1) <$> choose (.extern "runtime.boundsError.signed" 2)) w with
  | ok y w2=>rw [hs] at e; exact never_rt _ _ _ _ _ _ _ _ e
  | halt y w2=>rw [hs] at e; cases e
 ·rw [Sem.run_bind] at e
  exact never_rt _ _ _ _ _ _ _ _ e
theorem rb_indexAt (t : TypeId) (x i : Value) : RdB B (Instr.indexAt t x i):=by
 unfold Instr.indexAt
 refine (rb_asIntOf _).bind fun ki=>?_
 refine (rb_underlying t).bind fun d=>?_
 split
 ·refine (rb_sureAddr _).bind fun a=>(RdB.pure _).bind fun z=>?_
  obtain ⟨base,len,elem⟩:=z
  refine (rb_underlying t).bind fun d=>?_
  simp only
  cases base with
  | none=>exact never_bounds _ _ _ _
  | some a =>
   simp only
   split
   ·exact (rb_sizeOf _).bind fun n=>.pure _
   ·split <;> (split <;> first | exact .halt _ | exact never_bounds _ _ _ _)
 ·refine (RdB.pure _).bind fun z=>?_
  obtain ⟨base,len,elem⟩:=z
  refine (rb_underlying t).bind fun d=>?_
  simp only
  cases base with
  | none=>exact never_bounds _ _ _ _
  | some a =>
   simp only
   split
   ·exact (rb_sizeOf _).bind fun n=>.pure _
   ·split <;> (split <;> first | exact .halt _ | exact never_bounds _ _ _ _)
 ·exact .halt _
def slcV : Value → Prop
 | .slice _ _ _=>True
 | .string _=>True
 | _=>False
theorem rb_len {t u : TypeId} {v : Value} (h : slcV v) : RdB B (Builtin.len_ #[t] u #[v]):=by
 unfold Builtin.len_
 simp only [ZU,List.getElem?_cons_zero]
 refine (rb_underlying t).bind fun d=>?_
 cases v <;> first | exact h.elim | skip
 ·cases d <;> first | exact .pure _ | exact .halt _ | (refine (rb_underlying _).bind fun d2=>?_; cases d2 <;> first | exact .pure _ | exact .halt _)
 ·cases d <;> first | exact .pure _ | exact .halt _ | (refine (rb_underlying _).bind fun d2=>?_; cases d2 <;> first | exact .pure _ | exact .halt _)
def lookP (B : Nat → Prop) (ev : Operand → Value) : Op → Prop
 | .call c=>c.callee = .builtin .len ∧ ∃ x t,c.args = #[x] ∧ c.argTypes = #[t] ∧ slcV (ev x)
 | .move _=>True
 | .extract _ _=>True
 | .indexAddr _ _ _=>True
 | .nilCheck x=>∃ a,ev x = .pointer (some a)
 | .fieldAddr _ x _=>∃ a,ev x = .pointer (some a) ∧ B a.block
 | .load _ x=>∃ a,ev x = .pointer (some a) ∧ B a.block
 | _=>False
theorem lookP_run {P : Program} {o : Oper} {ev : Operand → Value} (hk : lookP B ev o.op) {w w1 w' : World} {x : Next} (hw : ∀ b,B b → SameB w w' b) (h : (execOp ev o).run P w = .ok x w1) : ∃ v,x = .value v ∧ w1 = w ∧ (execOp ev o).run P w' = .ok (.value v) w':=by
 have key : ∀ s : Sem Value,RdB B s → ((do pure (.value (← s)) : Sem Next)).run P w = .ok x w1 → ∃ v,x = .value v ∧ w1 = w ∧ ((do pure (.value (← s)) : Sem Next)).run P w' = .ok (.value v) w':=by
  intro s hs h
  have hr : RdB B (do pure (.value (← s)) : Sem Next):=hs.bind fun v=>.pure _
  obtain ⟨h1,h2⟩:=hr.run hw h
  rw [Sem.run_bind] at h
  cases hv : s.run P w with
  | halt e w2=>rw [hv] at h; cases h
  | ok v w2 =>
   rw [hv,Result.andThen_ok] at h
   simp only [Sem.run_pure] at h
   injection h with h3 h4
   subst h3
   exact ⟨v,rfl,h1,h2⟩
 by_cases hcl : ∃ c,o.op = .call c
 ·obtain ⟨c,hop⟩:=hcl
  rw [hop] at hk
  obtain ⟨h1,x1,t1,h2,h3,h4⟩:=hk
  obtain ⟨cc,ca,ct⟩:=c
  simp only at h1 h2 h3
  subst h1; subst h2; subst h3
  simp only [execOp,hop,resolve,Sem.run_bind,Sem.run_pure,Result.andThen_ok,invoke,builtin] at h ⊢
  have e1 : Array.map ev #[x1] = #[ev x1]:=by simp
  rw [e1] at h ⊢
  have k2:=key (Builtin.len_ #[t1] o.type #[ev x1]) (rb_len h4)
  rw [Sem.run_bind,Sem.run_bind] at k2
  exact k2 h
 cases hop : o.op <;> rw [hop] at hk <;> first | (cases hk; done) | skip
 case call c=>exact absurd ⟨c,hop⟩ hcl
 ·rename_i y
  simp only [execOp,hop] at h ⊢
  simp only [Sem.run_pure] at h ⊢
  injection h with h1 h2
  exact ⟨_,h1.symm,h2.symm,rfl⟩
 ·rename_i t y
  obtain ⟨a,e,hb⟩:=hk
  simp only [execOp,hop] at h ⊢
  rw [e] at h ⊢
  exact key _ (rb_loadAt _ hb) h
 ·rename_i y
  obtain ⟨a,e⟩:=hk
  simp only [execOp,hop,e] at h ⊢
  simp only [Sem.run_pure] at h ⊢
  injection h with h1 h2
  exact ⟨_,h1.symm,h2.symm,rfl⟩
 ·rename_i t y i
  obtain ⟨a,e,hb⟩:=hk
  simp only [execOp,hop] at h ⊢
  rw [e] at h ⊢
  exact key _ (rb_fieldAt _ hb _) h
 ·simp only [execOp,hop] at h ⊢
  exact key _ (rb_indexAt _ _ _) h
 ·simp only [execOp,hop] at h ⊢
  exact key _ (rb_extract _ _) h
end
def frzX : V → Prop
 | .fptr cs _=>0 < cs.length
 | .sptr sz xs i _=>0 < sz ∧ i < xs.length
 | _=>False
theorem cell_cells {w : World} {a : Addr} {u : Value} (h : w.cell? a = some u) : ∃ us e fr,w.heap[a.block]? = some (.cells us e fr):=by
 unfold World.cell? at h
 cases hb : w.heap[a.block]? with
 | none=>rw [hb] at h; simp at h
 | some o=>cases o <;> rw [hb] at h <;> first | exact ⟨_,_,_,rfl⟩ | simp at h
theorem frz_ptr {c : Cx} {x : V} {v : Value} (h : RV c x v) (hx : frzX x) : ∃ a,v = .pointer (some a) ∧ c.fz a.block ∧ ∃ us e fr,c.w.heap[a.block]? = some (.cells us e fr):=by
 cases x <;> first | exact hx.elim | skip
 ·rename_i sz xs i off
  obtain ⟨h1,h2⟩ : 0 < sz ∧ i < xs.length:=hx
  obtain ⟨b,o,e,hf,hr⟩:=h
  refine ⟨_,e,hf,?_⟩
  obtain ⟨g1,g2⟩:=hr.get i (Zd h2)
  obtain ⟨u,g3,_⟩:=g2.get 0 (Zd (by omega))
  have:=cell_cells g3; exact this
 ·rename_i cs off
  obtain ⟨b,e,hf,hr⟩:=h
  refine ⟨_,e,hf,?_⟩
  obtain ⟨u,g3,_⟩:=hr.get 0 (Zd hx)
  have:=cell_cells g3; exact this
def slcX : V → Prop
 | .sl _ _=>True
 | .str _=>True
 | .nil=>True
 | _=>False
theorem slc_RV {c : Cx} {x : V} {v : Value} (h : RV c x v) (hx : slcX x) : slcV v:=by
 cases x <;> first | exact hx.elim | skip
 ·rw [show v = .string _ from h]; trivial
 ·rw [show v = .slice none 0 0 from h]; trivial
 ·obtain ⟨A,cp,e,_⟩:=h; rw [e]; trivial
def opX (ev : Operand → V) : Op → Prop
 | .call c=>c.callee = .builtin .len ∧ ∃ x t,c.args = #[x] ∧ c.argTypes = #[t] ∧ slcX (ev x)
 | .move _=>True
 | .extract _ _=>True
 | .indexAddr _ _ _=>True
 | .nilCheck x=>frzX (ev x)
 | .fieldAddr _ x _=>frzX (ev x)
 | .load _ x=>frzX (ev x)
 | _=>False
def FLi (P : Program) : List Oper → St → Prop
 | [],st=>st.m = []
 | o :: os,st=>opX (St.ev st.t) o.op ∧ T1 P o st (fun st'=>FLi P os st')
def pickM : Option Oper → List Oper → List Oper
 | some o,os=>o :: os
 | none,os=>os
def pickO (os : List Oper) : List Nat → List Oper
 | []=>[]
 | f :: fl=>pickM os[f]? (pickO os fl)
def FL (P : Program) (ops : Array Oper) (fl : List Nat) (t : List V) : Prop:=FLi P (pickO ops.toList fl) ⟨t,[],[]⟩
theorem FLi_m {P : Program} : ∀ (os : List Oper) (st : St),FLi P os st → st.m = []
 | [],_,h=>h
 | o :: os,st,⟨_,h⟩=>by
   obtain ⟨r,new,_,h2⟩:=Q1_sound (o:=o) h
   have:=FLi_m os _ h2
   exact (List.append_eq_nil_iff.1 this).1
section
variable {P : Program} {os : List Oper} {t : List V} {gs : List V} {o : Oper} {m : List Ob} {ops : Array Oper} {fl : List Nat} {ev : Operand → V}
@[method_specs_simp] theorem FLi_cons : FLi P (o :: os) ⟨t,m,gs⟩ = (opX (St.ev t) o.op ∧ T1 P o ⟨t,m,gs⟩ (fun st'=>FLi P os st')):=nr rfl
@[method_specs_simp] theorem FLi_nil : FLi P [] ⟨t,[],gs⟩ = True:=eq_true rfl
@[method_specs_simp] theorem pick_cons {f : Nat} : pickO os (f :: fl) = pickM os[f]? (pickO os fl):=nr rfl
@[method_specs_simp] theorem pick_nil : pickO os [] = []:=nr rfl
@[method_specs_simp] theorem pick_some {o : Oper} : pickM (some o) os = o :: os:=nr rfl
@[method_specs_simp] theorem opX_load {u : TypeId} {x : Operand} : opX ev (.load u x) = frzX (ev x):=nr rfl
@[method_specs_simp] theorem opX_len {x : Operand} {e : TypeId} : opX ev (.call { callee:=.builtin .len,args:=#[x],argTypes:=#[e] }) = slcX (ev x):=by
 simp only [opX,true_and]
 refine propext ⟨fun ⟨x1,t1,h2,h3,h4⟩=>?_,fun h=>⟨x,e,rfl,rfl,h⟩⟩
 have : x = x1:=by simpa using h2
 rw [this]; exact h4
@[method_specs_simp] theorem slcX_sl {sz : Nat} {xs : List (List V)} : slcX (.sl sz xs) = True:=nr rfl
@[method_specs_simp] theorem opX_field {u i : Nat} {x : Operand} : opX ev (.fieldAddr u x i) = frzX (ev x):=nr rfl
@[method_specs_simp] theorem frzX_fptr {c : V} {cs : List V} {off : Nat} : frzX (.fptr (c :: cs) off) = True:=eq_true (Nat.succ_pos _)
end
def fltS (ops : Array Oper) : List Nat → List Nat → Bool
 | _,[]=>true
 | done,f :: fs=>!(fs.contains f) && fltS ops (f :: done) fs && (match ops[f]? with
   | some o=>o.guard.isNone && (o.after.toList.all fun e=>!Region.binds .any e || done.contains e.on) && ((List.range ops.size).all fun j=>ZA j f || done.contains j || (match ops[j]? with
     | some oj=>(oj.after.toList.any fun e=>Region.binds .any e && ZA e.on f) || o.apart ops oj
     | none=>true))
   | none=>false)
section
variable {P : Program} {ops : Array Oper} {K : St → Prop} {w0 : World} {E Zo : Nat → Prop} {gh : List Value} {Q : Exit → Act → World → Prop}
theorem head_held {S : World → Prop} {k : Nat} {st st' : St} {rs : List Res} {fl : List Nat} (A : Any ops fl k) (hS : ∀ st a w,Rel w0 E Zo gh st a w → S w) (hQ : ∀ st a w,K st → Rel w0 E Zo gh st a w → Q .normal a w)
  (hrun : Run P (dsts ops) (ops.toList.take k) st rs st') (htail : RS P (dsts ops) (ops.toList.drop k) st' K) :
  ∀ (fuel : Nat) (F : List Bool) (a : Act) (w : World),F.length = k → left F + (ops.size - k) ≤ fuel → (∀ i,F[i]? = some true → ∀ j ∈ waits ops i,F[j]? = some true) → (∀ f ∈ fl,F[f]? = some true) →
   Part ops k st rs w0 E Zo gh F a w → wpAnyH P .any ops Q S fuel (lay0 ops.size F) a w:=by
 have hlenk : (ops.toList.take k).length = k:=by simp [A.le]
 have hrl : rs.length = k:=by rw [hrun.len,hlenk]
 have htl : ∀ (fuel : Nat) (a : Act) (w : World),ops.size - k ≤ fuel → Rel w0 E Zo gh st' a w → wpAnyH P .any ops Q S fuel (flags ops.size k) a w:=fun fuel a w hfu r =>
  tail_held A hQ (fun i o st K a w _ _ hS1 _ r=>Oper.wp_mono (fun a w h=>⟨(by obtain ⟨st'',_,h2⟩:=h; exact hS _ _ _ h2),h⟩) (S1_sound hS1 w0 E Zo gh a w _ r)) fuel k st' a w (Zj _) A.le (by omega) htail (hS _ _ _ r) r
 intro fuel
 induction fuel with
 | zero =>
  intro F a w hF hl hc hfl r
  have h0 : left F = 0:=by omega
  have hall:=left_zero h0
  rw [hF] at hall
  subst hall
  rw [lay0_all A.le]
  refine htl 0 a w (by omega) ?_
  rw [hrun.fin,hlenk]
  exact r
 | succ fuel ih =>
  intro F a w hF hl hc hfl r
  by_cases h0 : left F = 0
  ·have hall:=left_zero h0
   rw [hF] at hall
   subst hall
   rw [lay0_all A.le]
   refine htl (fuel + 1) a w (by omega) ?_
   rw [hrun.fin,hlenk]
   exact r
  ·refine ⟨fun hr=>?_,fun i hi=>?_⟩
   ·exfalso
    refine h0 ?_
    have hsz : (lay0 ops.size F).size = ops.size:=by have:=A.le; simp [lay0]; omega
    have:=ready_some hsz A.early hr
    have hF' : F = ZB F.length true:=all_true fun j hj=>by rw [← lay0_get hj]; exact this j (by have:=A.le; omega)
    rw [hF']
    exact left_rep _
   ·obtain ⟨h1,h2,h3⟩:=ready_waits hi
    have hik : i < k:=by
     by_cases hik : i < k
     ·exact hik
     ·exfalso
      refine h0 ?_
      have hw3 : ∀ l ∈ waits ops i,F[l]? = some true:=by
       intro l hl2
       have:=h3 l hl2
       by_cases hlk : l < F.length
       ·rw [Zg,lay0_get hlk] at this
        cases hb : F[l]? with
        | none=>rw [hb] at this; cases this
        | some b=>rw [hb] at this; simpa using this
       ·exfalso
        rw [Zg] at this
        unfold lay0 at this
        rw [ZU,ZC (by omega),ZV] at this
        split at this <;> simp at this
      have hanc0 : ∀ {a b : Nat},Anc ops a b → (∀ l ∈ waits ops a,F[l]? = some true) → F[b]? = some true:=by
       intro a b h
       induction h with
       | one h=>exact fun hw=>hw _ h
       | more h _ ih=>exact fun hw=>ih (hc _ (hw _ h))
      have hF' : F = ZB F.length true:=all_true fun j hj=>by
       by_cases hjf : j ∈ fl
       ·exact hfl j hjf
       ·exact hanc0 (A.tail i (by omega) h2 j (by omega) hjf) hw3
      rw [hF']
      exact left_rep _
    have hiF : F[i]? = some false:=by
     rw [Zg,lay0_get (by omega)] at h1
     have hlt : i < F.length:=by omega
     rw [Zd hlt] at h1 ⊢
     simpa using h1
    have h3' : ∀ j ∈ waits ops i,F[j]? = some true:=by
     intro j hj
     have hj2:=A.early i h2 j hj
     have:=h3 j hj
     rw [Zg,lay0_get (by omega)] at this
     cases hb : F[j]? with
     | none=>rw [hb] at this; cases this
     | some b=>rw [hb] at this; simpa using this
    rw [lay0_set (by omega)]
    have hnext : ∀ (a' : Act) (w' : World),Part ops k st rs w0 E Zo gh (F.set i true) a' w' → S w' ∧ wpAnyH P .any ops Q S fuel (lay0 ops.size (F.set i true)) a' w':=by
     intro a' w' hp
     refine ⟨hS _ _ _ hp,?_⟩
     refine ih (F.set i true) a' w' (by simpa using hF) (by have:=left_set hiF; omega) ?_ (fun f hf=>?_) hp
     rotate_left
     ·by_cases e : f = i
      ·subst e; rw [ZE (by omega)]
      ·rw [Zu (fun q=>e q.symm)]; exact hfl f hf
     intro j hj l hl
     by_cases e : j = i
     ·subst e
      have hlj:=A.early j h2 l hl
      rw [Zu (by omega)]
      exact h3' l hl
     ·rw [Zu (fun q=>e q.symm)] at hj
      have:=hc j hj l hl
      by_cases e2 : l = i
      ·subst e2
       rw [ZE (by omega)]
      ·rw [Zu (fun q=>e2 q.symm)]
       exact this
    rcases head_step (Q:=Q) A hrun hF hc r hik h2 hiF h3' hnext with ⟨hw,h⟩ | ⟨hw,h⟩
    ·unfold wpOp
     rw [Zv h2]
     simp only
     rw [if_pos hw]
     exact .inl h
    ·unfold wpOp
     rw [Zv h2]
     simp only
     rw [if_neg (by rw [hw]; decide)]
     exact h
theorem live_keep {w : World} {Zo : Nat → Prop} {m : List Ob} {β β' : List Lc} (h : (cx w Zo m β).le (cx w Zo m β')) {b : Nat} (k : liveAt m β b) : liveAt m β' b:=by
 obtain ⟨o,ob,l,h1,h2,h3⟩:=k
 have ho:=h.ob o trivial
 have ho : obLe m[o]? β[o]? m[o]? β'[o]?:=ho
 rw [h1,h2] at ho
 cases ob with
 | hole=>simp [Ob.blk] at h3
 | dead=>simp [Ob.blk] at h3
 | box lv cs =>
  rcases ho with ho | ⟨lv',cs',l',e1,e2,e3⟩
  ·cases ho
  ·refine ⟨o,_,l',h1,e2,?_⟩
   cases lv
   ·simp [Ob.blk] at h3
   ·simp only [Ob.blk,Option.some.injEq] at h3 ⊢; rw [e3]; exact h3
 | arr lv sz xs =>
  rcases ho with ho | ⟨lv',xs',e1,e2,e3⟩
  ·cases ho
  ·exact ⟨o,_,l,h1,e2,h3⟩
 | mp lv ks vs =>
  rcases ho with ho | ⟨lv',ks',vs',l',e1,e2,e3⟩
  ·cases ho
  ·refine ⟨o,_,l',h1,e2,?_⟩
   cases lv
   ·simp [Ob.blk] at h3
   ·simp only [Ob.blk,Option.some.injEq] at h3 ⊢; rw [e3]; exact h3
theorem flt_soundK {fl : List Nat} {k : Nat} {st st' : St} {rs : List Res} {wb : World} {β0 : List Lc} (A : Any ops fl k) (hQ : ∀ st2 a w,K st2 → Rel wb (liveAt st.m β0) Zo gh st2 a w → Q .normal a w) (hns : noSel ops = true) (hP : ∀ c a w,¬ Q (.panic c) a w)
  (hrun : Run P (dsts ops) (ops.toList.take k) st rs st') (htail : RS P (dsts ops) (ops.toList.drop k) st' K) :
  ∀ (todo done : List Nat) (fuel : Nat) (F : List Bool) (a : Act) (t : List V) (β : List Lc),fltS ops done todo = true → FL P ops todo t → Mem wb Zo st.m β → (cx wb Zo st.m β0).le (cx wb Zo st.m β) → RVs (cx wb Zo st.m β) t a.tmps.toList →
   (∀ g ∈ done,F[g]? = some true) → (∀ g ∈ done,g < k) → (∀ f ∈ todo,f < k) → F.length = k →
   left F + (ops.size - k) ≤ fuel → (∀ i,F[i]? = some true → ∀ j ∈ waits ops i,F[j]? = some true) →
   (∀ f ∈ todo,F[f]? = some false) → (∀ f ∈ fl,f ∈ todo ∨ F[f]? = some true) → Part ops k st rs wb (liveAt st.m β0) Zo gh F a wb → wpAnyH P .any ops Q (fun w=>Frame (liveAt st.m β0) wb w) fuel (lay0 ops.size F) a wb
 | [],done,fuel,F,a,t,β,_,_,_,_,_,_,_,_,hF,hl,hc,_,hfl,r=>head_held A (fun _ _ _ ⟨_,_,_,h,_⟩=>h) hQ hrun htail fuel F a wb hF hl hc (fun f hf=>(hfl f hf).resolve_left (by simp)) r
 | f :: todo,done,fuel,F,a,t,β,hb,hv,M,hle,ht,hd,hdk,hk,hF,hl,hc,hf,hfl,r=>by
   have hfF:=hf f Zn
   have hfk:=hk f Zn
   have hleft:=left_set hfF
   obtain ⟨fuel,rfl⟩ : ∃ n,fuel = n + 1:=⟨fuel - 1,by omega⟩
   have hsz : f < ops.size:=by have:=A.le; omega
   have ho : ops[f]? = some ops[f]:=Zv hsz
   unfold fltS at hb
   unfold FL at hv
   have ho' : ops.toList[f]? = some ops[f]:=by rw [Yi]; exact ho
   rw [pickO,ho'] at hv
   rw [ho] at hb
   obtain ⟨hv1,hv2⟩:=hv
   have hv2 : Q1 P (ops[f]).op (St.ev t) [] 0 (fun r new=>FLi P (pickO ops.toList todo) ⟨putT t (ops[f]).dst r,[] ++ new,[]⟩):=hv2
   simp only [Zb,Bool.not_eq_true'] at hb
   obtain ⟨⟨hb1,hb2⟩,⟨hb4,hb5⟩,hb6⟩:=hb
   have hfn : f ∉ todo:=fun h=>by have:=List.contains_iff_mem.2 h; rw [hb1] at this; cases this
   have hg : (ops[f]).guard = none:=by simpa using hb4
   have hw : ∀ j ∈ waits ops f,j ∈ done:=by
    intro j hj
    obtain ⟨e,he,hbe,rfl⟩:=(waits_spec ho).1 hj
    have:=Zi.1 hb5 e (ZW.2 he)
    rw [hbe] at this
    simpa using this
   have hwant : Region.wanted ops[f] (yielded ops a.tmps) = true:=by unfold Region.wanted; rw [hg]
   have hfz : ∀ b,(cx wb Zo st.m β).fz b → b < wb.heap.size ∧ ¬ liveAt st.m β0 b:=fun b h=>⟨h.1,fun hl=>h.2 (.inr (live_keep hle hl))⟩
   have hlook : lookP (fun b=>(b < wb.heap.size ∧ ¬ liveAt st.m β0 b) ∧ ∃ us e fr,wb.heap[b]? = some (.cells us e fr)) a.eval (ops[f]).op:=by
    cases hop : (ops[f]).op <;> rw [hop] at hv1 <;> first | exact hv1.elim | trivial | skip
    case call c =>
     obtain ⟨h1,x1,t1,h2,h3,h4⟩:=hv1
     exact ⟨h1,x1,t1,h2,h3,slc_RV (ev_RV ht x1) h4⟩
    case load u x =>
     obtain ⟨A,e,h1,h2⟩:=frz_ptr (ev_RV ht x) hv1
     exact ⟨A,e,hfz _ h1,h2⟩
    case nilCheck x =>
     obtain ⟨A,e,h1,h2⟩:=frz_ptr (ev_RV ht x) hv1
     exact ⟨A,e⟩
    case fieldAddr u x i =>
     obtain ⟨A,e,h1,h2⟩:=frz_ptr (ev_RV ht x) hv1
     exact ⟨A,e,hfz _ h1,h2⟩
   have hsame : ∀ w',Frame (liveAt st.m β0) wb w' → ∀ b,((b < wb.heap.size ∧ ¬ liveAt st.m β0 b) ∧ ∃ us e fr,wb.heap[b]? = some (.cells us e fr)) → SameB wb w' b:=fun w' hS b h=>⟨hS.block b h.1.1 h.1.2,h.2⟩
   obtain ⟨rv,new,hqs,hv3⟩:=Q1_sound hv2
   have hnew : new = []:=FLi_m _ _ hv3
   subst hnew
   have hwp:=hqs wb Zo st.m β a (fun _ _ _=>False) M (fun o ob h=>by simp at h) (fun x _=>ev_RV ht x) (fun j hj=>by simp at hj)
   unfold Oper.wp at hwp
   obtain ⟨v,hrun1,hyield,hres⟩ : ∃ v,(execOp a.eval ops[f]).run P wb = .ok (.value v) wb ∧ (∀ w',Frame (liveAt st.m β0) wb w' → (execOp a.eval ops[f]).run P w' = .ok (.value v) w') ∧ ∃ β',Mem wb Zo st.m β' ∧ (cx wb Zo st.m β).le (cx wb Zo st.m β') ∧ RVs (cx wb Zo st.m β') (putT t (ops[f]).dst rv) (a.put (ops[f]).dst v).tmps.toList:=by
    cases hr : (execOp a.eval ops[f]).run P wb with
    | ok x w1 =>
     obtain ⟨v,rfl,rfl,h3⟩:=lookP_run hlook (hsame wb (Frame.refl _ _)) hr
     rw [hr] at hwp
     obtain ⟨v',β',e,hG,M',hle',hrv,_⟩:=hwp
     refine ⟨v,rfl,fun w' hS=>?_,β',M',hle',?_⟩
     ·obtain ⟨v2,e2,_,h4⟩:=lookP_run hlook (hsame w' hS) hr
      injection e2 with e2
      subst e2
      exact h4
     ·rw [e]
      exact (ht.mono hle').put hrv _
    | halt e w1 =>
     rw [hr] at hwp
     exfalso
     cases e <;> exact hwp
   obtain ⟨β',M',hle',hvs⟩:=hres
   refine wpAnyH_first (v:=v) ho (fun j o cs b hj=>noSel_out hns hj cs b) (fun c a w h=>(hP c _ _ h).elim) fuel (lay0 ops.size F) a wb (fun j oj hj hne hun hno=>?_) ?_ (.inl ⟨hwant,hyield⟩) (Frame.refl _ _) ?_
   ·have:=Zi.1 hb6 j (ZX.2 (ZF.1 hj).1)
    rw [hj] at this
    simp only [Bool.or_eq_true] at this
    rcases this with (h | h) | h | h
    ·exact absurd (Zw h) hne
    ·exfalso
     have hm : j ∈ done:=by simpa using h
     have hF2:=hd j hm
     rw [Zg,lay0_get (by have:=hdk j hm; omega),hF2] at hun
     cases hun
    ·obtain ⟨e,he,h2⟩:=List.any_eq_true.1 h
     simp only [Zb] at h2
     exact absurd (Zw h2.2) (hno e (ZW.1 he) h2.1)
    ·exact h
   ·refine mem_ready.2 ⟨?_,_,ho,fun e he hbe=>?_⟩
    ·rw [Zg,lay0_get (by omega),hfF]; rfl
    ·have hm : e.on ∈ done:=hw _ ((waits_spec ho).2 ⟨e,he,hbe,rfl⟩)
     rw [Zg,lay0_get (by have:=hdk _ hm; omega),hd _ hm]; rfl
   ·rw [lay0_set (by omega)]
    have hpart : Part ops k st rs wb (liveAt st.m β0) Zo gh (F.set f true) (a.put (ops[f]).dst v) wb:=by
     rcases head_step (Q:=fun _ _ _=>False) (K':=fun a' w'=>Part ops k st rs wb (liveAt st.m β0) Zo gh (F.set f true) a' w') A hrun hF hc r hfk hsz hfF (fun j hj=>hd j (hw j hj)) (fun _ _ h=>h) with ⟨_,h⟩ | ⟨h,_⟩
     ·unfold Oper.wp at h
      rw [hrun1] at h
      exact h
     ·rw [hwant] at h; cases h
    have hset : ∀ g,F[g]? = some true → (F.set f true)[g]? = some true:=fun g h=>by
     by_cases e : g = f
     ·subst e; rw [ZE (by omega)]
     ·rw [Zu (fun q=>e q.symm)]; exact h
    refine flt_soundK A hQ hns hP hrun htail todo (f :: done) fuel (F.set f true) _ _ β' hb2 hv3 M' (hle.trans hle') hvs (fun g hg=>?_) (fun g hg=>?_) (fun g hg=>hk g (Zp _ hg)) (by simpa using hF) (by omega) ?_ (fun g hg=>?_) (fun g hg=>?_) hpart
    ·rcases Zm.1 hg with rfl | hg
     ·rw [ZE (by omega)]
     ·exact hset g (hd g hg)
    ·rcases Zm.1 hg with rfl | hg
     ·exact hfk
     ·exact hdk g hg
    ·intro j hj l hl
     by_cases e : j = f
     ·subst e
      exact hset l (hd l (hw l hl))
     ·rw [Zu (fun q=>e q.symm)] at hj
      exact hset l (hc j hj l hl)
    ·have hne : g ≠ f:=fun e=>hfn (e ▸ hg)
     rw [Zu (fun q=>hne q.symm)]
     exact hf g (Zp _ hg)
    ·rcases hfl g hg with h | h
     ·rcases Zm.1 h with rfl | h
      ·exact .inr (by rw [ZE (by omega)])
      ·exact .inl h
     ·exact .inr (hset g h)
def WA (P : Program) (ops : Array Oper) (st : St) (Q : Exit → St → Prop) : Prop:=∀ (w0 : World) (E Zo : Nat → Prop) (gh : List Value) (a : Act) (w : World),Rel w0 E Zo gh st a w →
 wpAny P .any ops (fun e a' w'=>∃ st',Q e st' ∧ Rel w0 E Zo gh st' a' w') ops.size (Array.replicate ops.size false) a { w with drawn:=w.drawn + 1 }
theorem WA.drawnK0 {st : St} {Q : Exit → St → Prop} (fl : List Nat) (k : Nat) (hk : anyF ops fl k = true) (hf : fltS ops [] fl = true) (hfv : FL P ops fl st.t) (hns : noSel ops = true) (hP : ∀ c st,¬ Q (.panic c) st)
  (h : RQ P (dsts ops) k ops.toList st (Q .normal)) : WA P ops st Q:=by
 intro w0 E Zo gh a w r
 have A:=Any.of hk
 obtain ⟨rs,st',hrun,htail⟩:=RQ_run h
 have hlenk : (ops.toList.take k).length = k:=by simp [A.le]
 have hrl : rs.length = k:=by rw [hrun.len,hlenk]
 have h0 : Array.replicate ops.size false = lay0 ops.size (ZB k false):=by
  have:=A.le
  unfold lay0
  rw [List.length_replicate,Yj,show k + (ops.size - k) = ops.size by omega]
  simp
 rw [h0]
 obtain ⟨β,M,g1,g2,g3,g4,g5⟩:=r
 have hG : Grow w { w with drawn:=w.drawn + 1 }:=Grow.drew w
 have hup : ∀ (st2 : St) (a : Act) (w2 : World),Rel { w with drawn:=w.drawn + 1 } (liveAt st.m β) Zo gh st2 a w2 → Rel w0 E Zo gh st2 a w2:=by
  rintro st2 a w2 ⟨β2,M2,q1,q2,q3,q4,q5⟩
  refine ⟨β2,M2,fun b hb=>?_,?_,q3,q4,q5⟩
  ·rcases q1 b hb with h | h
   ·exact g1 b h
   ·exact .inr (ZK g2.size h)
  ·have g3 : Frame E w0 { w with drawn:=w.drawn + 1 }:=g2.trans (hG.mono (fun _ q=>q.elim))
   exact ⟨q2.os.trans g3.os,q2.tape.trans g3.tape,q2.output.trans g3.output,ZK g3.size q2.size,fun i hi hE=>(q2.block i (Nat.lt_of_lt_of_le hi g3.size) (fun hl=>(g1 i hl).elim hE (fun h=>by omega))).trans (g3.block i hi hE),ZK g3.drawn q2.drawn⟩
 refine wpAny_of_held _ _ _ _ (flt_soundK (K:=Q .normal) (st:=st) (β0:=β) (wb:={ w with drawn:=w.drawn + 1 }) (Zo:=Zo) (gh:=gh) A (fun st2 a w hq hr=>⟨st2,hq,hup _ _ _ hr⟩) hns (fun c a w ⟨st,h,_⟩=>hP c st h) hrun htail fl [] ops.size _ a st.t β hf hfv (M.grow hG) (Cx.le.refl _) (g4.mono (cx_le_grow hG)) (fun g hg=>by cases hg) (fun g hg=>by cases hg) A.flt (by simp) ?_ (fun i hi=>?_) (fun f hf=>?_) (fun f hf=>.inl hf) ?_)
 ·have h1 : ∀ n,left (ZB n false) = n:=by
   intro n
   induction n with
   | zero=>rfl
   | succ n ih=>simp [Yk,left,ih]; omega
  have:=A.le
  rw [h1]; omega
 ·rw [ZV] at hi
  split at hi <;> cases hi
 ·rw [ZV,if_pos (A.flt f hf)]
 ·unfold Part
  rw [runT_none]
  have hf : ∀ (l : List Res),∃ n,flatM l (ZB l.length false) = ZB n .hole:=by
   intro l
   induction l with
   | nil=>exact ⟨0,rfl⟩
   | cons x xs ih =>
    obtain ⟨n,hn⟩:=ih
    refine ⟨(newOf x).length + n,?_⟩
    simp [Yk,flatM,hn,← Yj]
  obtain ⟨n,hn⟩:=hf rs
  rw [hrl] at hn
  rw [hn]
  obtain ⟨M1,hle⟩:=(M.grow hG).holes n
  refine ⟨_,M1,?_,Frame.refl _ _,g3,g4.mono ((cx_le_grow hG).trans hle),g5.mono ((cx_le_grow hG).trans hle)⟩
  rintro b ⟨p,q,l,h1,h2,h3⟩
  rcases getElem?_append_holes h1 with h1 | ⟨_,rfl⟩
  ·rw [ZS (by rw [M.len]; exact (Zl.1 h1).1)] at h2
   exact .inl ⟨p,q,l,h1,h2,h3⟩
  ·simp [Ob.blk] at h3
def renO (inv : List Nat) (o : Oper) : Oper:=⟨o.dst,o.op,o.type,o.pos,o.after.map (fun e=>⟨inv.getD e.on inv.length,e.ground⟩),o.guard⟩
def permO (ord inv : List Nat) (ops : Array Oper) : Array Oper:=((pickO ops.toList ord).map (renO inv)).toArray
def permB (ord inv : List Nat) (ops : Array Oper) : Bool:=ZA ord.length ops.size && ZA inv.length ops.size && ((List.range ops.size).all fun i=>Nat.blt (ord.getD i ops.size) ops.size && Nat.blt (inv.getD i ops.size) ops.size && ZA (ord.getD (inv.getD i ops.size) ops.size) i && ZA (inv.getD (ord.getD i ops.size) ops.size) i) && ops.toList.all fun o=>o.guard.isNone
theorem pickO_get {os : List Oper} : ∀ {ord : List Nat},(∀ i ∈ ord,i < os.length) → ∀ i : Nat,(pickO os ord)[i]? = (ord[i]?).bind fun j=>os[j]?
 | [],_,i=>by simp [pickO]
 | f :: fl,h,i=>by
   have hf:=h f Zn
   have ih:=pickO_get (ord:=fl) (fun i hi=>h i (Zp _ hi))
   rw [pickO,Zd hf]
   show (os[f] :: pickO os fl)[i]? = _
   cases i with
   | zero=>simp [Zd hf]
   | succ i=>simpa using ih i
theorem pickO_len {os : List Oper} : ∀ {ord : List Nat},(∀ i ∈ ord,i < os.length) → (pickO os ord).length = ord.length
 | [],_=>rfl
 | f :: fl,h=>by
   rw [pickO,Zd (h f Zn)]
   show (pickO os fl).length + 1 = fl.length + 1
   rw [pickO_len fun i hi=>h i (Zp _ hi)]
theorem pickO_map {os : List Oper} {f : Oper → Oper} : ∀ fl : List Nat,pickO (os.map f) fl = (pickO os fl).map f
 | []=>rfl
 | i :: fl=>by
   rw [pickO,pickO,Zt,pickO_map fl]
   cases os[i]? <;> rfl
theorem FLi_ren {inv : List Nat} : ∀ (os : List Oper) (st : St),FLi P (os.map (renO inv)) st = FLi P os st
 | [],st=>rfl
 | o :: os,st=>by
   have ih : (fun st'=>FLi P (os.map (renO inv)) st') = fun st'=>FLi P os st':=funext fun st'=>FLi_ren os st'
   rw [Zr]
   show (opX (St.ev st.t) o.op ∧ T1 P (renO inv o) st (fun st'=>FLi P (os.map (renO inv)) st')) = (opX (St.ev st.t) o.op ∧ T1 P o st fun st'=>FLi P os st')
   rw [ih]
   rfl
theorem RS_ren {inv : List Nat} {ds ds' : List (Option Tmp)} : ∀ (os : List Oper) (st : St),(∀ o ∈ os,o.guard = none) → RS P ds' (os.map (renO inv)) st K = RS P ds os st K
 | [],st,_=>rfl
 | o :: os,st,hg=>by
   have h0 : o.guard = none:=hg o Zn
   have h0' : (renO inv o).guard = none:=h0
   have ih : (fun st'=>RS P ds' (os.map (renO inv)) st' K) = fun st'=>RS P ds os st' K:=funext fun st'=>RS_ren os st' fun x hx=>hg x (Zp _ hx)
   rw [Zr]
   unfold RS gv
   rw [h0,h0']
   show S1 P (renO inv o) st (fun st'=>RS P ds' (os.map (renO inv)) st' K) = S1 P o st fun st'=>RS P ds os st' K
   rw [ih]
   rfl
theorem RQ_ren {inv : List Nat} {ds ds' : List (Option Tmp)} : ∀ (k : Nat) (os : List Oper) (st : St),(∀ o ∈ os,o.guard = none) → RQ P ds' k (os.map (renO inv)) st K = RQ P ds k os st K
 | 0,os,st,hg=>by rw [RQ_zero,RQ_zero]; exact RS_ren os st hg
 | k + 1,[],st,hg=>rfl
 | k + 1,o :: os,st,hg=>by
   have h0 : o.guard = none:=hg o Zn
   have h0' : (renO inv o).guard = none:=h0
   have ih : (fun st'=>RQ P ds' k (os.map (renO inv)) st' K) = fun st'=>RQ P ds k os st' K:=funext fun st'=>RQ_ren k os st' fun x hx=>hg x (Zp _ hx)
   rw [Zr]
   unfold RQ gv
   rw [h0,h0']
   show Q1 P o.op (St.ev st.t) st.m st.m.length (fun r new=>(fun st'=>RQ P ds' k (os.map (renO inv)) st' K) ⟨putT st.t o.dst r,st.m ++ new,st.g⟩) = Q1 P o.op (St.ev st.t) st.m st.m.length (fun r new=>(fun st'=>RQ P ds k os st' K) ⟨putT st.t o.dst r,st.m ++ new,st.g⟩)
   rw [ih]
structure PermO (ord inv : List Nat) (ops ops' : Array Oper) : Prop where
 io : ∀ i,i < ops.size → inv.getD i ops.size < ops.size ∧ ord.getD (inv.getD i ops.size) ops.size = i
 oi : ∀ i,i < ops.size → ord.getD i ops.size < ops.size ∧ inv.getD (ord.getD i ops.size) ops.size = i
 li : inv.length = ops.size
 op : ∀ i o,ops[i]? = some o → o.guard = none ∧ ops'[inv.getD i ops.size]? = some (renO inv o)
 sz : ops'.size = ops.size
theorem permB_in {ord inv : List Nat} (h : permB ord inv ops = true) : ∀ i ∈ ord,i < ops.toList.length:=fun i hi=>by
 unfold permB at h
 simp only [Zb] at h
 obtain ⟨⟨⟨h1,h2⟩,h3⟩,h4⟩:=h
 have h1:=Zw h1
 obtain ⟨j,hj⟩:=Zq hi
 have hjl:=(Zl.1 hj).1
 have:=Zi.1 h3 j (ZX.2 (by omega))
 simp only [Zb,blt_iff] at this
 have:=this.1.1.1
 rw [ZY,hj] at this
 simpa using this
theorem PermO.of {ord inv : List Nat} (h : permB ord inv ops = true) : PermO ord inv ops (permO ord inv ops):=by
 have h0:=h
 unfold permB at h
 simp only [Zb] at h
 obtain ⟨⟨⟨h1,h2⟩,h3⟩,h4⟩:=h
 have h1:=Zw h1
 have h2:=Zw h2
 have h3' : ∀ i,i < ops.size → (ord.getD i ops.size < ops.size ∧ inv.getD (ord.getD i ops.size) ops.size = i) ∧ (inv.getD i ops.size < ops.size ∧ ord.getD (inv.getD i ops.size) ops.size = i):=fun i hi=>by
  have:=Zi.1 h3 i (ZX.2 hi)
  simp only [Zb,blt_iff] at this
  exact ⟨⟨this.1.1.1,Zw this.2⟩,this.1.1.2,Zw this.1.2⟩
 have hin:=permB_in h0
 have hget : ∀ i j : Nat,ord[i]? = some j → (permO ord inv ops)[i]? = (ops[j]?).map (renO inv):=fun i j hj=>by
  unfold permO
  rw [ZU,Zt,pickO_get hin,hj]
  simp
 refine ⟨fun i hi=>(h3' i hi).2,fun i hi=>(h3' i hi).1,h2,fun i o ho=>?_,?_⟩
 ·have hil:=(ZF.1 ho).1
  obtain ⟨k1,k2⟩:=(h3' i hil).2
  refine ⟨by have:=Zi.1 h4 o (ZW.2 (Array.mem_of_getElem? ho)); simpa using this,?_⟩
  have hj : ord[inv.getD i ops.size]? = some i:=by
   rw [ZY (l:=ord),Zd (by omega)] at k2
   rw [Zd (by omega)]
   simpa using k2
  rw [hget _ _ hj,ho]; rfl
 ·unfold permO
  have:=pickO_len hin
  simp [this,h1]
theorem wpAny_perm {ord inv : List Nat} {ops' : Array Oper} {Q : Exit → Act → World → Prop} (h : PermO ord inv ops ops') : ∀ (fuel : Nat) (l l' : Array Bool) (a : Act) (w : World),l.size = ops.size → l'.size = ops.size → (∀ i,i < ops.size → l'[inv.getD i ops.size]? = l[i]?) →
  wpAny P .any ops' Q fuel l' a w → wpAny P .any ops Q fuel l a w:=by
 have hrd : ∀ (l l' : Array Bool),l.size = ops.size → l'.size = ops.size → (∀ i,i < ops.size → l'[inv.getD i ops.size]? = l[i]?) → ∀ i,i < ops.size → (i ∈ Region.ready .any ops l ↔ inv.getD i ops.size ∈ Region.ready .any ops' l'):=by
  intro l l' hl hl' hll i hi
  obtain ⟨hi1,hi2⟩:=h.io i hi
  obtain ⟨hg,ho'⟩:=h.op i _ (Zv hi)
  rw [mem_ready,mem_ready]
  have hd : ∀ d,l'.getD (inv.getD i ops.size) d = l.getD i d:=fun d=>by rw [Zg,Zg,hll i hi]
  have hon : ∀ n : Nat,l'.getD (inv.getD n inv.length) false = l.getD n false:=fun n=>by
   by_cases hn : n < ops.size
   ·rw [h.li,Zg,Zg,hll n hn]
   ·have e1 : inv.getD n inv.length = ops.size:=by rw [ZY,ZZ (by have:=h.li; omega),h.li]; rfl
    rw [e1,Zg,Zg,Yl (by omega),Yl (by omega)]
  rw [hd,ho',Zv hi]
  refine and_congr Iff.rfl ?_
  constructor
  ·rintro ⟨o,e,k⟩
   injection e with e
   subst e
   refine ⟨_,rfl,fun e' he' hb=>?_⟩
   obtain ⟨e,he,rfl⟩:=Array.mem_map.1 he'
   rw [hon]
   exact k e he hb
  ·rintro ⟨o,e,k⟩
   injection e with e
   subst e
   refine ⟨_,rfl,fun e he hb=>?_⟩
   have:=k ⟨inv.getD e.on inv.length,e.ground⟩ (Array.mem_map.2 ⟨e,he,rfl⟩) hb
   rwa [hon] at this
 have hnil : ∀ (l l' : Array Bool),l.size = ops.size → l'.size = ops.size → (∀ i,i < ops.size → l'[inv.getD i ops.size]? = l[i]?) → Region.ready .any ops l = [] → Region.ready .any ops' l' = []:=by
  intro l l' hl hl' hll h0
  rw [Ym]
  intro i hi
  have hil : i < ops.size:=by
   obtain ⟨_,o,ho,_⟩:=mem_ready.1 hi
   have:=(ZF.1 ho).1
   rw [h.sz] at this; exact this
  obtain ⟨k1,k2⟩:=h.oi i hil
  have:=(hrd l l' hl hl' hll _ k1).2 (by rw [k2]; exact hi)
  rw [h0] at this; cases this
 intro fuel
 induction fuel with
 | zero =>
  intro l l' a w hl hl' hll hw
  refine ⟨?_,hw.2⟩
  rw [Ym]
  intro i hi
  have hil : i < ops.size:=by
   obtain ⟨_,o,ho,_⟩:=mem_ready.1 hi
   exact (ZF.1 ho).1
  have:=(hrd l l' hl hl' hll i hil).1 hi
  rw [hw.1] at this; cases this
 | succ fuel ih =>
  intro l l' a w hl hl' hll hw
  refine ⟨fun h0=>hw.1 (hnil l l' hl hl' hll h0),fun i hi=>?_⟩
  have hil : i < ops.size:=by
   obtain ⟨_,o,ho,_⟩:=mem_ready.1 hi
   exact (ZF.1 ho).1
  obtain ⟨hi1,hi2⟩:=h.io i hil
  obtain ⟨hg,ho'⟩:=h.op i _ (Zv hil)
  have hk:=hw.2 _ ((hrd l l' hl hl' hll i hil).1 hi)
  have key : ∀ a' w',wpAny P .any ops' Q fuel (l'.setIfInBounds (inv.getD i ops.size) true) a' w' → wpAny P .any ops Q fuel (l.setIfInBounds i true) a' w':=fun a' w' hx=>by
   refine ih _ _ a' w' (by simpa using hl) (by simpa using hl') (fun j hj=>?_) hx
   rw [Yn,Yn,hll j hj]
   by_cases e : i = j
   ·subst e
    rw [if_pos rfl,if_pos rfl,if_pos (by omega),if_pos (by omega)]
   ·have : inv.getD i ops.size ≠ inv.getD j ops.size:=fun q=>e (by rw [← hi2,← (h.io j hj).2,q])
    rw [if_neg this,if_neg e]
  unfold wpOp at hk ⊢
  rw [ho'] at hk
  rw [Zv hil]
  simp only at hk ⊢
  have w1 : Region.wanted ops[i] (yielded ops a.tmps) = true:=by unfold Region.wanted; rw [hg]
  have w2 : Region.wanted (renO inv ops[i]) (yielded ops' a.tmps) = true:=by unfold Region.wanted; rw [show (renO inv ops[i]).guard = none from hg]
  rw [if_pos w2] at hk
  rw [if_pos w1]
  rcases hk with hk | hk
  ·exact .inl (Oper.wp_mono key hk)
  ·exact .inr hk
theorem SW.drawnP {st : St} {Q : Exit → St → Prop} {id : Nat} (ord inv fl : List Nat) (k : Nat) (hm : P.follows .mixedOrders = true) (hp : permB ord inv ops = true) (hk : anyF (permO ord inv ops) fl k = true) (hf : fltS (permO ord inv ops) [] fl = true) (hns : noSel (permO ord inv ops) = true) (hfv : FLi P (pickO (pickO ops.toList ord) fl) ⟨st.t,[],[]⟩)
  (h : RQ P (dsts ops) k (pickO ops.toList ord) st (Q .normal)) : SW P (.region id ops true) st Q:=by
 have hin : ∀ i ∈ ord,i < ops.toList.length:=permB_in hp
 have hp:=PermO.of hp
 have hgs : ∀ o ∈ pickO ops.toList ord,o.guard = none:=by
  intro o ho
  obtain ⟨i,hi⟩:=Zq ho
  rw [pickO_get hin] at hi
  cases hj : ord[i]? with
  | none=>rw [hj] at hi; cases hi
  | some j =>
   rw [hj] at hi
   have hi : ops.toList[j]? = some o:=hi
   rw [Yi] at hi
   exact (hp.op j o hi).1
 have hl : (permO ord inv ops).toList = (pickO ops.toList ord).map (renO inv):=rfl
 have hw : WA P (permO ord inv ops) st (fun e st=>match e with | .normal=>Q .normal st | _=>False):=by
  refine WA.drawnK0 fl k hk hf ?_ hns (fun c st h=>h) ?_
  ·unfold FL
   rw [hl,pickO_map,FLi_ren]; exact hfv
  ·rw [hl,RQ_ren _ _ _ hgs (ds:=dsts ops)]; exact h
 refine SW.mono (Q:=fun e st=>match e with | .normal=>Q .normal st | _=>False) (fun w0 E Zo gh a w r=>wp_region_any hm ?_) fun e st h=>?_
 ·have:=hw w0 E Zo gh a w r
  rw [hp.sz] at this
  refine wpAny_perm hp ops.size _ _ a _ (by simp) (by simp) (fun i hi=>?_) this
  rw [Yo,Yo,if_pos hi,if_pos (hp.io i hi).1]
 ·cases e <;> first | exact h | exact h.elim
end
end Go.Pm
end
section
namespace Go.Pm
open Go.RowKit
end Go.Pm
end
end
section
section
namespace Go.Gm
def insE (l : List Ev) (e : Ev) : List Ev:=l.take (posE l e.id) ++ e :: l.drop (posE l e.id)
theorem insE_len (l : List Ev) (e : Ev) : (insE l e).length = l.length + 1:=by
 have:=posE_le l e.id
 unfold insE
 rw [Za,Zx,Ya,List.length_drop]
 omega
theorem insE_mem {l : List Ev} {e x : Ev} : x ∈ insE l e ↔ x = e ∨ x ∈ l:=by
 have h : x ∈ l ↔ x ∈ l.take (posE l e.id) ∨ x ∈ l.drop (posE l e.id):=by
  rw [← ZJ,List.take_append_drop]
 unfold insE
 rw [ZJ,Zm,h]
 constructor
 ·rintro (h | h | h)
  ·exact .inr (.inl h)
  ·exact .inl h
  ·exact .inr (.inr h)
 ·rintro (h | h | h)
  ·exact .inr (.inl h)
  ·exact .inl h
  ·exact .inr (.inr h)
theorem hasId_ins {l : List Ev} {e : Ev} {id : Int} : hasId (insE l e) id = (e.id == id || hasId l id):=by
 apply Bool.eq_iff_iff.2
 rw [Bool.or_eq_true,hasId_iff,hasId_iff,beq_iff_eq]
 constructor
 ·rintro ⟨x,hx,h⟩
  rcases insE_mem.1 hx with rfl | hx
  ·exact .inl h
  ·exact .inr ⟨x,hx,h⟩
 ·rintro (h | ⟨x,hx,h⟩)
  ·exact ⟨e,insE_mem.2 (.inl rfl),h⟩
  ·exact ⟨x,insE_mem.2 (.inr hx),h⟩
theorem hasId_no {l : List Ev} {id : Int} (h : hasId l id = false) : ∀ x ∈ l,x.id ≠ id:=fun x hx he=>by
 have:=hasId_iff.2 ⟨x,hx,he⟩
 rw [h] at this
 cases this
theorem Srt.take_lt {l : List Ev} (h : Srt l) (id : Int) : ∀ x ∈ l.take (posE l id),x.id < id:=fun x hx=>by
 obtain ⟨i,hi⟩:=Zq hx
 rw [List.getElem?_take] at hi
 split at hi
 ·rename_i hl
  have:=takeWhile_in (fun e : Ev=>decide (e.id < id)) l i x hl hi
  simpa using this
 ·cases hi
theorem Srt.drop_ge {l : List Ev} (h : Srt l) (id : Int) : ∀ x ∈ l.drop (posE l id),id ≤ x.id:=fun x hx=>by
 obtain ⟨i,hi⟩:=Zq hx
 rw [List.getElem?_drop] at hi
 have hlt : posE l id < l.length:=by
  have:=(Zl.1 hi).1
  omega
 obtain ⟨y,hy⟩ : ∃ y,l[posE l id]? = some y:=⟨_,Zd hlt⟩
 have h1:=takeWhile_end (fun e : Ev=>decide (e.id < id)) l y hy
 have h1 : id ≤ y.id:=by simpa using h1
 by_cases hi0 : i = 0
 ·subst hi0
  rw [Nat.add_zero,hy] at hi
  injection hi with hi
  rw [← hi]; exact h1
 ·have:=h.get (a:=posE l id) (b:=posE l id + i) (by omega) hy hi
  omega
theorem Srt.ins {l : List Ev} {e : Ev} (h : Srt l) (hn : hasId l e.id = false) : Srt (insE l e):=by
 unfold insE Srt
 rw [List.pairwise_append]
 have hl:=hasId_no hn
 refine ⟨h.sublist (List.take_sublist _ _),?_,?_⟩
 ·rw [List.pairwise_cons]
  refine ⟨fun x hx=>?_,h.sublist (List.drop_sublist _ _)⟩
  have:=h.drop_ge e.id x hx
  have:=hl x (List.mem_of_mem_drop hx)
  omega
 ·intro a ha b hb
  have h1:=h.take_lt e.id a ha
  rcases Zm.1 hb with rfl | hb
  ·exact h1
  ·have:=h.drop_ge e.id b hb
   omega
theorem Srt.erase {l : List Ev} (h : Srt l) (i : Nat) : Srt (l.eraseIdx i):=h.sublist (Yp ..)
theorem Srt.one {l m : List Ev} (hl : Srt l) (hm : Srt m) (h : ∀ x,x ∈ l ↔ x ∈ m) : l = m:=by
 have nd : ∀ {l : List Ev},Srt l → l.Nodup:=fun {l} hl=>hl.imp fun {a b} hab he=>by subst he; omega
 have hp : l.Perm m:=(List.perm_ext_iff_of_nodup (nd hl) (nd hm)).2 h
 exact sorted_one (T:=fun a b : Ev=>a.id < b.id) ⟨fun x=>by omega,fun x y z=>by omega⟩ hp hl hm
def goP : Nat → List Ev → List Ev → List Int → List Ev × List Ev × List Int
 | 0,E,K,A=>(E,K,A)
 | f + 1,E,K,A=>match K[K.findIdx (allIn E)]? with
   | none=>(E,K,A)
   | some x=>if E.length < 60 then goP f (insE E x) (K.eraseIdx (K.findIdx (allIn E))) (A ++ [x.id]) else goP f E (K.eraseIdx (K.findIdx (allIn E))) A
structure Po where
 g : Gr
 added : List Int
 code : Int
def illP (c : Int) : Po:=⟨⟨0,[],[]⟩,[],c⟩
def thereP (g : Gr) (e : Ev) : Bool:=hasId g.events e.id || hasId g.parked e.id
def fullP (g : Gr) (e : Ev) : Bool:=(g.events.length == 60) || (!allIn g.events e && (g.parked.length == 20))
def putP (g : Gr) (e : Ev) : Po :=
 if thereP g e then illP 7 else if fullP g e then illP 9 else
 if allIn g.events e then
  let r:=goP g.parked.length (insE g.events e) g.parked [e.id]
  ⟨⟨g.room,r.1,r.2.1⟩,r.2.2,0⟩
 else ⟨⟨g.room,g.events,insE g.parked e⟩,[],0⟩
structure Wl (g : Gr) : Prop where
 se : Srt g.events
 sk : Srt g.parked
 dis : ∀ e ∈ g.events,hasId g.parked e.id = false
 el : g.events.length ≤ 60
 kl : g.parked.length ≤ 20
theorem hasId_erase {K : List Ev} {i : Nat} {id : Int} (h : hasId K id = false) : hasId (K.eraseIdx i) id = false:=by
 cases hb : hasId (K.eraseIdx i) id with
 | false=>rfl
 | true =>
  obtain ⟨x,hx,he⟩:=hasId_iff.1 hb
  exact absurd he (hasId_no h x (Yb hx))
theorem Srt.gone {K : List Ev} (h : Srt K) {i : Nat} {x : Ev} (hx : K[i]? = some x) : hasId (K.eraseIdx i) x.id = false:=by
 cases hb : hasId (K.eraseIdx i) x.id with
 | false=>rfl
 | true =>
  obtain ⟨y,hy,he⟩:=hasId_iff.1 hb
  obtain ⟨j,hj⟩:=Zq hy
  rw [Yc] at hj
  split at hj
  ·rename_i hlt
   have:=h.get hlt hj hx
   omega
  ·have:=h.get (a:=i) (b:=j + 1) (by omega) hx hj
   omega
structure GoI (E K : List Ev) : Prop where
 se : Srt E
 sk : Srt K
 dis : ∀ e ∈ E,hasId K e.id = false
 el : E.length ≤ 60
theorem GoI.step {E K : List Ev} (h : GoI E K) {i : Nat} {x : Ev} (hx : K[i]? = some x) : hasId E x.id = false ∧ GoI E (K.eraseIdx i) ∧ (E.length < 60 → GoI (insE E x) (K.eraseIdx i)):=by
 have hm:=Zf hx
 have h0 : hasId E x.id = false:=by
  cases hb : hasId E x.id with
  | false=>rfl
  | true =>
   obtain ⟨y,hy,he⟩:=hasId_iff.1 hb
   have:=hasId_no (h.dis y hy) x hm
   omega
 refine ⟨h0,⟨h.se,h.sk.erase i,fun e he=>hasId_erase (h.dis e he),h.el⟩,fun hl=>⟨h.se.ins h0,h.sk.erase i,fun e he=>?_,by rw [insE_len]; omega⟩⟩
 rcases insE_mem.1 he with rfl | he
 ·exact h.sk.gone hx
 ·exact hasId_erase (h.dis e he)
theorem goP_ok : ∀ (f : Nat) (E K : List Ev) (A : List Int),GoI E K → GoI (goP f E K A).1 (goP f E K A).2.1 ∧ (goP f E K A).2.1.length ≤ K.length ∧ (goP f E K A).2.2.length ≤ A.length + f
 | 0,E,K,A,h=>⟨h,Zj _,Zj _⟩
 | f + 1,E,K,A,h=>by
   unfold goP
   split
   ·exact ⟨h,Zj _,Nat.le_add_right _ _⟩
   ·rename_i x hx
    obtain ⟨h0,h1,h2⟩:=h.step hx
    have hk : (K.eraseIdx (K.findIdx (allIn E))).length ≤ K.length:=(Yp ..).length_le
    split
    ·rename_i hl
     obtain ⟨k1,k2,k3⟩:=goP_ok f (insE E x) _ (A ++ [x.id]) (h2 hl)
     refine ⟨k1,by omega,?_⟩
     rw [Za,List.length_singleton] at k3
     omega
    ·obtain ⟨k1,k2,k3⟩:=goP_ok f E _ A h1
     exact ⟨k1,by omega,by omega⟩
theorem put_goI {g : Gr} {e : Ev} (h : Wl g) (h1 : thereP g e = false) (h2 : fullP g e = false) : GoI (insE g.events e) g.parked:=by
 unfold thereP at h1
 rw [ZL] at h1
 unfold fullP at h2
 rw [ZL] at h2
 have h3 : g.events.length ≠ 60:=by simpa using h2.1
 have:=h.el
 refine ⟨h.se.ins h1.1,h.sk,fun x hx=>?_,by rw [insE_len]; omega⟩
 rcases insE_mem.1 hx with rfl | hx
 ·exact h1.2
 ·exact h.dis x hx
theorem Wl.put {g : Gr} {e : Ev} (h : Wl g) (hc : (putP g e).code = 0) : Wl (putP g e).g:=by
 unfold putP at hc ⊢
 cases h1 : thereP g e with
 | true=>rw [h1] at hc; cases hc
 | false =>
  rw [h1] at hc
  cases h2 : fullP g e with
  | true=>rw [h2] at hc; cases hc
  | false =>
   rw [h2] at hc
   simp only [ZM,if_false]
   cases h3 : allIn g.events e with
   | true =>
    simp only [if_true]
    obtain ⟨k,k2,k3⟩:=goP_ok g.parked.length _ _ [e.id] (put_goI h h1 h2)
    exact ⟨k.se,k.sk,k.dis,k.el,ZK k2 h.kl⟩
   | false =>
    simp only [ZM,if_false]
    unfold thereP at h1
    rw [ZL] at h1
    unfold fullP at h2
    rw [h3,ZL] at h2
    have h4 : g.parked.length ≠ 20:=by simpa using h2.2
    have:=h.kl
    refine ⟨h.se,h.sk.ins h1.2,fun x hx=>?_,h.el,by rw [insE_len]; omega⟩
    rw [hasId_ins,h.dis x hx,Bool.or_false]
    have:=hasId_no h1.1 x hx
    simp only [beq_eq_false_iff_ne]
    omega
theorem right_wl {g : Gr} (h : grRight g = true) : Wl g:=by
 unfold grRight at h
 simp only [Zb] at h
 obtain ⟨_,h1,h2,h3,_⟩:=h
 unfold rowR at h1 h2
 rw [Zb,decide_eq_true_eq] at h1 h2
 refine ⟨(rowFrom_srt h1.2).1,(rowFrom_srt h2.2).1,fun e he=>?_,by omega,by omega⟩
 rw [Zi] at h3
 have:=h3 e he
 rw [Zb] at this
 simpa using this.2
end Go.Gm
end
section
namespace Go.Gm
theorem eraseIdx_mem {α : Type} {l : List α} {i : Nat} {x y : α} (h : l[i]? = some x) : y ∈ l ↔ y = x ∨ y ∈ l.eraseIdx i:=by
 constructor
 ·intro hy
  obtain ⟨j,hj⟩:=Zq hy
  by_cases hij : j = i
  ·subst hij
   rw [h] at hj
   injection hj with hj
   exact .inl hj.symm
  ·refine .inr ?_
   by_cases hlt : j < i
   ·exact Zf (i:=j) (by rw [Yc,if_pos hlt]; exact hj)
   ·exact Zf (i:=j - 1) (by rw [Yc,if_neg (by omega),Nat.sub_add_cancel (by omega)]; exact hj)
 ·rintro (rfl | hy)
  ·exact Zf h
  ·exact Yb hy
theorem findIdx_none {K : List Ev} {p : Ev → Bool} (h : K[K.findIdx p]? = none) : ∀ x ∈ K,p x = false:=fun x hx=>by
 have h1 : K.length ≤ K.findIdx p:=List.getElem?_eq_none_iff.1 h
 have h2 : K.findIdx p ≤ K.length:=List.findIdx_le_length
 have h3:=List.findIdx_eq_length.1 (show K.findIdx p = K.length by omega)
 exact h3 x hx
theorem findIdx_some {K : List Ev} {p : Ev → Bool} {x : Ev} (h : K[K.findIdx p]? = some x) : p x = true:=by
 obtain ⟨hl,rfl⟩:=Zl.1 h
 exact List.findIdx_getElem (p:=p) (w:=hl)
theorem goP_all (G : Ev → Prop) : ∀ (f : Nat) (E K : List Ev) (A : List Int),GoI E K → E.length + K.length ≤ 60 → K.length ≤ f → (∀ x ∈ E,G x) → (∀ x ∈ K,(∀ p ∈ x.prev,∃ y,y.id = p ∧ G y) → G x) →
  (∀ x,(x ∈ (goP f E K A).1 ∨ x ∈ (goP f E K A).2.1) ↔ (x ∈ E ∨ x ∈ K)) ∧ (∀ x ∈ (goP f E K A).2.1,allIn (goP f E K A).1 x = false) ∧ (∀ x ∈ (goP f E K A).1,G x) ∧ (goP f E K A).1.length + (goP f E K A).2.1.length = E.length + K.length
 | 0,E,K,A,h,hl,hf,hE,hK=>by
   have : K = []:=List.eq_nil_of_length_eq_zero (by omega)
   subst this
   exact ⟨fun x=>Iff.rfl,fun x hx=>absurd (show x ∈ ([] : List Ev) from hx) ZG,hE,rfl⟩
 | f + 1,E,K,A,h,hl,hf,hE,hK=>by
   unfold goP
   split
   ·rename_i hn
    exact ⟨fun x=>Iff.rfl,findIdx_none hn,hE,rfl⟩
   ·rename_i x hx
    obtain ⟨h0,h1,h2⟩:=h.step hx
    have hi:=(Zl.1 hx).1
    have hk : (K.eraseIdx (K.findIdx (allIn E))).length = K.length - 1:=List.length_eraseIdx_of_lt hi
    have hEl : E.length < 60:=by omega
    rw [if_pos hEl]
    have hGx : G x:=hK x (Zf hx) fun p hp=>by
     have:=findIdx_some hx
     unfold allIn at this
     obtain ⟨y,hy,he⟩:=hasId_iff.1 (Zi.1 this p hp)
     exact ⟨y,he,hE y hy⟩
    obtain ⟨k1,k2,k3,k4⟩:=goP_all G f (insE E x) (K.eraseIdx (K.findIdx (allIn E))) (A ++ [x.id]) (h2 hEl) (by rw [insE_len,hk]; omega) (by rw [hk]; omega) (fun y hy=>(insE_mem.1 hy).elim (fun e=>e ▸ hGx) (hE y)) (fun y hy=>hK y (Yb hy))
    refine ⟨fun y=>?_,k2,k3,by rw [k4,insE_len,hk]; omega⟩
    rw [k1,insE_mem,eraseIdx_mem (y:=y) hx]
    constructor
    ·rintro ((h | h) | h)
     ·exact .inr (.inl h)
     ·exact .inl h
     ·exact .inr (.inr h)
    ·rintro (h | h | h)
     ·exact .inl (.inr h)
     ·exact .inl (.inl h)
     ·exact .inr h
inductive Gen (U : Ev → Prop) : Ev → Prop
 | mk (x : Ev) (f : Int → Ev) : U x → (∀ p ∈ x.prev,(f p).id = p) → (∀ p ∈ x.prev,Gen U (f p)) → Gen U x
theorem Gen.mono {U W : Ev → Prop} (h : ∀ x,U x → W x) {x : Ev} (g : Gen U x) : Gen W x:=by
 induction g with
 | mk x f hx he hp ih=>exact .mk x f (h x hx) he ih
theorem Gen.of {U : Ev → Prop} {x : Ev} (hx : U x) (h : ∀ p ∈ x.prev,∃ y,y.id = p ∧ Gen U y) : Gen U x:=by
 refine .mk x (fun p=>if q : p ∈ x.prev then (h p q).choose else x) hx (fun p hp=>?_) (fun p hp=>?_)
 ·rw [dif_pos hp]; exact (h p hp).choose_spec.1
 ·rw [dif_pos hp]; exact (h p hp).choose_spec.2
structure Inv (U : Ev → Prop) (g : Gr) : Prop where
 wl : Wl g
 mem : ∀ x,(x ∈ g.events ∨ x ∈ g.parked) ↔ U x
 gen : ∀ x ∈ g.events,Gen U x
 stuck : ∀ x ∈ g.parked,allIn g.events x = false
theorem Inv.ev {U : Ev → Prop} {g : Gr} (h : Inv U g) (x : Ev) : x ∈ g.events ↔ Gen U x:=by
 refine ⟨h.gen x,fun k=>?_⟩
 induction k with
 | mk x f hx he hp ih =>
  rcases (h.mem x).2 hx with h1 | h1
  ·exact h1
  ·have h2:=h.stuck x h1
   have h3 : allIn g.events x = true:=Zi.2 fun p hp=>hasId_iff.2 ⟨f p,ih p hp,he p hp⟩
   rw [h2] at h3
   cases h3
theorem Inv.pk {U : Ev → Prop} {g : Gr} (h : Inv U g) (x : Ev) : x ∈ g.parked ↔ U x ∧ ¬ Gen U x:=by
 rw [← h.mem,← h.ev]
 constructor
 ·intro hx
  exact ⟨.inr hx,fun he=>hasId_no (h.wl.dis x he) x hx rfl⟩
 ·rintro ⟨h1 | h1,h2⟩
  ·exact absurd h1 h2
  ·exact h1
theorem Inv.one {U : Ev → Prop} {g h : Gr} (hg : Inv U g) (hh : Inv U h) : g.events = h.events ∧ g.parked = h.parked :=
 ⟨hg.wl.se.one hh.wl.se fun x=>by rw [hg.ev,hh.ev],hg.wl.sk.one hh.wl.sk fun x=>by rw [hg.pk,hh.pk]⟩
theorem Inv.put {U : Ev → Prop} {g : Gr} {e : Ev} (h : Inv U g) (hl : g.events.length + g.parked.length + 1 ≤ 60) (hc : (putP g e).code = 0) : Inv (fun x=>U x ∨ x = e) (putP g e).g ∧ (putP g e).g.events.length + (putP g e).g.parked.length = g.events.length + g.parked.length + 1 ∧ (putP g e).g.room = g.room:=by
 have hwl:=h.wl.put hc
 unfold putP at hc hwl ⊢
 cases h1 : thereP g e with
 | true=>rw [h1] at hc; cases hc
 | false =>
  rw [h1] at hc hwl
  cases h2 : fullP g e with
  | true=>rw [h2] at hc; cases hc
  | false =>
   rw [h2] at hc hwl
   simp only [ZM,if_false] at hwl ⊢
   cases h3 : allIn g.events e with
   | true =>
    rw [h3] at hwl
    simp only [if_true] at hwl ⊢
    have hi:=put_goI h.wl h1 h2
    have hge : Gen (fun x=>U x ∨ x = e) e:=Gen.of (.inr rfl) fun p hp=>by
     obtain ⟨y,hy,he⟩:=hasId_iff.1 (Zi.1 h3 p hp)
     exact ⟨y,he,(h.gen y hy).mono fun x hx=>.inl hx⟩
    obtain ⟨k1,k2,k3,k4⟩:=goP_all (Gen fun x=>U x ∨ x = e) g.parked.length (insE g.events e) g.parked [e.id] hi (by rw [insE_len]; omega) (Zj _)
     (fun x hx=>(insE_mem.1 hx).elim (fun q=>q ▸ hge) fun q=>(h.gen x q).mono fun x hx=>.inl hx) (fun x hx hp=>Gen.of (.inl ((h.mem x).1 (.inr hx))) hp)
    refine ⟨⟨hwl,fun x=>?_,k3,k2⟩,by rw [k4,insE_len]; omega,trivial⟩
    simp only
    rw [k1,insE_mem,← h.mem]
    constructor
    ·rintro ((q | q) | q)
     ·exact .inr q
     ·exact .inl (.inl q)
     ·exact .inl (.inr q)
    ·rintro ((q | q) | q)
     ·exact .inl (.inr q)
     ·exact .inr q
     ·exact .inl (.inl q)
   | false =>
    rw [h3] at hwl
    simp only [ZM,if_false] at hwl ⊢
    refine ⟨⟨hwl,fun x=>?_,fun x hx=>(h.gen x hx).mono fun x hx=>.inl hx,fun x hx=>?_⟩,by rw [insE_len]; omega,trivial⟩
    ·simp only
     rw [insE_mem,← h.mem]
     constructor
     ·rintro (q | q | q)
      ·exact .inl (.inl q)
      ·exact .inr q
      ·exact .inl (.inr q)
     ·rintro ((q | q) | q)
      ·exact .inl q
      ·exact .inr (.inr q)
      ·exact .inr (.inl q)
    ·rcases insE_mem.1 hx with rfl | hx
     ·exact h3
     ·exact h.stuck x hx
end Go.Gm
end
section
namespace Go.Gm
def foldP : List Ev → Po → Po
 | [],o=>o
 | e :: l,o=>if (putP o.g e).code = 7 then foldP l o else if (putP o.g e).code ≠ 0 then illP (putP o.g e).code else foldP l ⟨(putP o.g e).g,o.added ++ (putP o.g e).added,0⟩
end Go.Gm
end
end
section
namespace Go.Proofs.Ytnlobbbbgcdiiaa
open Go.Pm
theorem strOf_data (ns : List Int) : (strOf ns).data.toList = ns.map fun n=>UInt8.ofNat n.toNat:=by
 unfold strOf
 have : ∀ (ns : List Int) (s : ByteArray),(ns.foldl (fun r n=>r.push (UInt8.ofNat n.toNat)) s).data.toList = s.data.toList ++ ns.map fun n=>UInt8.ofNat n.toNat:=by
  intro ns
  induction ns with
  | nil=>intro s; simp
  | cons n ns ih =>
   intro s
   rw [List.foldl_cons,ih]
   simp [ByteArray.push]
 rw [this]
 rfl
theorem bytes_ext {a b : ByteArray} (h : a.data.toList = b.data.toList) : a = b:=by
 cases a; cases b
 congr 1
 exact Array.toList_inj.1 h
theorem strOf_append (a b : List Int) : strOf (a ++ b) = strOf a ++ strOf b:=by
 apply bytes_ext
 simp [strOf_data]
def intsOf (s : ByteArray) : List Int:=s.data.toList.map fun b=>(b.toNat : Int)
theorem strOf_ints (s : ByteArray) : strOf (intsOf s) = s:=by
 apply bytes_ext
 rw [strOf_data]
 unfold intsOf
 rw [ZH]
 have : ((fun n : Int=>UInt8.ofNat n.toNat) ∘ fun b : UInt8=>(b.toNat : Int)) = id:=by
  funext b
  simp
 rw [this,Yd]
theorem strOf_size (ns : List Int) : (strOf ns).size = ns.length:=by
 have:=congrArg List.length (strOf_data ns)
 simpa using this
theorem intsOf_len (s : ByteArray) : (intsOf s).length = s.size:=by
 unfold intsOf
 rw [List.length_map]; rfl
theorem intsOf_str {ns : List Int} (h : ∀ n ∈ ns,0 ≤ n ∧ n < 256) : intsOf (strOf ns) = ns:=by
 unfold intsOf
 rw [strOf_data,ZH]
 have : ns.map ((fun b : UInt8=>(b.toNat : Int)) ∘ fun n : Int=>UInt8.ofNat n.toNat) = ns.map id:=by
  refine Yq fun n hn=>?_
  have:=h n hn
  simp only [Function.comp,id,UInt8.toNat_ofNat']
  omega
 rw [this,Yd]
theorem intsOf_b (s : ByteArray) : ∀ n ∈ intsOf s,0 ≤ n ∧ n < 256:=fun n hn=>by
 unfold intsOf at hn
 obtain ⟨b,_,rfl⟩:=ZD.1 hn
 have:=b.toNat_lt
 omega
def rowsOf (ns : List Int) : List (List V):=ns.map fun n=>[.int .u8 n]
theorem bytesV_eq (s : ByteArray) : bytesV s = rowsOf (intsOf s):=by
 unfold bytesV rowsOf intsOf
 rw [ZH]
 rfl
theorem rowsOf_append (a b : List Int) : rowsOf (a ++ b) = rowsOf a ++ rowsOf b:=ZR
theorem rowsOf_length (a : List Int) : (rowsOf a).length = a.length:=List.length_map _
theorem rowsOf_len (ns : List Int) : (∀ z ∈ rowsOf ns,z.length = 1) = True:=eq_true fun z hz=>by
 obtain ⟨n,_,rfl⟩:=ZD.1 hz; rfl
theorem rowsOf_one (m : List Ob) (ns : List Int) : (∀ z ∈ (rowsOf ns).flatten,oneV m z = true) = True:=eq_true fun z hz=>by
 obtain ⟨l,hl,hz⟩:=List.mem_flatten.1 hz
 obtain ⟨n,_,rfl⟩:=ZD.1 hl
 rw [Yr] at hz; rw [hz]; rfl
theorem rowsOf_refs (ok : Nat → Prop) (ns : List Int) : Refss ok (rowsOf ns) = True:=eq_true (Refss_map fun a=>⟨trivial,trivial⟩)
theorem rowsOf_rens (ρ : Nat → Nat) (ns : List Int) : renss ρ (rowsOf ns) = rowsOf ns:=renss_map fun a=>⟨trivial,trivial⟩
theorem rowsOf_take (ns : List Int) : List.take ns.length (rowsOf ns) = rowsOf ns:=Zs (by rw [rowsOf_length]; exact Zj _)
attribute [method_specs_simp ↓] rowsOf_len rowsOf_one
attribute [method_specs_simp] rowsOf_length rowsOf_refs rowsOf_rens rowsOf_take
attribute [method_specs_simp] decide_true decide_false bytesV_eq
theorem pure_rows (lv : Bool) (ns : List Int) : (Ob.arr lv 1 (rowsOf ns)).pure:=Refss_map fun a=>⟨trivial,trivial⟩
def putU (u : Nat) : List Int:=if u < 128 then [(u : Int)] else ((u % 128 + 128 : Nat) : Int) :: putU (u / 128)
termination_by u
decreasing_by omega
def numN (n : Int) : List Int:=putU (2 * n.toNat)
theorem putU_lt {u : Nat} (h : u < 128) : putU u = [(u : Int)]:=by rw [putU,if_pos h]
theorem putU_ge {u : Nat} (h : ¬ u < 128) : putU u = ((u % 128 + 128 : Nat) : Int) :: putU (u / 128):=by rw [putU,if_neg h]
theorem putU_len1 {u : Nat} (h : u < 128) : (putU u).length = 1:=by rw [putU_lt h]; rfl
theorem putU_pos (u : Nat) : 1 ≤ (putU u).length:=by
 by_cases h : u < 128
 ·rw [putU_len1 h]; exact Zj _
 ·rw [putU_ge h,Zx]; omega
theorem putU_len2 {u : Nat} (h : u < 16384) : (putU u).length ≤ 2:=by
 by_cases h1 : u < 128
 ·rw [putU_len1 h1]; omega
 ·rw [putU_ge h1,Zx,putU_len1 (by omega)]; omega
theorem putU_len3 {u : Nat} (h : u < 2097152) : (putU u).length ≤ 3:=by
 by_cases h1 : u < 128
 ·rw [putU_len1 h1]; omega
 ·have:=putU_len2 (u:=u / 128) (by omega)
  rw [putU_ge h1,Zx]; omega
theorem numN_len1 {n : Int} (h : n < 64) : (numN n).length = 1:=putU_len1 (by omega)
theorem numN_pos (n : Int) : 1 ≤ (numN n).length:=putU_pos _
theorem numN_len2 {n : Int} (h : n < 8192) : (numN n).length ≤ 2:=putU_len2 (by omega)
theorem numN_len3 {n : Int} (h : n < 1048576) : (numN n).length ≤ 3:=putU_len3 (by omega)
theorem putU_b (u : Nat) : ∀ n ∈ putU u,0 ≤ n ∧ n < 256:=by
 induction u using Nat.strongRecOn with
 | _ u ih =>
  intro n hn
  by_cases h : u < 128
  ·rw [putU_lt h,Yr] at hn; omega
  ·rw [putU_ge h] at hn
   rcases Zm.1 hn with rfl | hn
   ·omega
   ·exact ih _ (by omega) n hn
theorem numN_b (n : Int) : ∀ x ∈ numN n,0 ≤ x ∧ x < 256:=putU_b _
theorem u64N {n : Nat} (h : n < 2 ^ 64) : IntKind.u64.wrap (n : Int) = n:=by simp [IntKind.wrap,IntKind.bits,IntKind.signed]; omega
theorem u8N (n : Nat) : IntKind.u8.wrap (n : Int) = ((n % 256 : Nat) : Int):=by simp [IntKind.wrap,IntKind.bits,IntKind.signed]
theorem or128 : ∀ c : Fin 256,IntKind.u8.wrap ((BitVec.ofInt IntKind.u8.bits (c.val : Int) ||| BitVec.ofInt IntKind.u8.bits 128).toNat : Int) = ((c.val % 128 + 128 : Nat) : Int):=by decide +kernel
theorem or128' {c : Nat} (hc : c < 256) : IntKind.u8.wrap ((BitVec.ofInt IntKind.u8.bits (c : Int) ||| BitVec.ofInt IntKind.u8.bits 128).toNat : Int) = ((c % 128 + 128 : Nat) : Int):=or128 ⟨c,hc⟩
theorem zig_bits {n : Int} (h0 : 0 ≤ n) (h1 : n < 2 ^ 62) : IntKind.u64.wrap ((BitVec.ofInt IntKind.u64.bits (IntKind.u64.wrap (IntKind.u64.wrap n * 2 ^ min 1 IntKind.u64.bits)) ^^^ BitVec.ofInt IntKind.u64.bits (IntKind.u64.wrap (n.fdiv (2 ^ min 63 IntKind.i64.bits)))).toNat : Int) = ((2 * n.toNat : Nat) : Int):=by
 have e1 : IntKind.u64.wrap n = n:=by simp [IntKind.wrap,IntKind.bits,IntKind.signed]; omega
 have e2 : IntKind.u64.wrap (n * 2 ^ min 1 IntKind.u64.bits) = ((2 * n.toNat : Nat) : Int):=by simp [IntKind.wrap,IntKind.bits,IntKind.signed]; omega
 have e3 : IntKind.u64.wrap (n.fdiv (2 ^ min 63 IntKind.i64.bits)) = 0:=by
  have : n.fdiv (2 ^ min 63 IntKind.i64.bits) = 0:=by
   simp only [IntKind.bits]
   rw [ZN _ (by decide)]
   exact Int.ediv_eq_zero_of_lt h0 (Int.lt_trans h1 (by decide))
  rw [this]; rfl
 rw [e1,e2,e3]
 have e4 : BitVec.ofInt IntKind.u64.bits 0 = 0#IntKind.u64.bits:=rfl
 rw [e4,BitVec.xor_zero]
 have e5 : (BitVec.ofInt IntKind.u64.bits ((2 * n.toNat : Nat) : Int)).toNat = 2 * n.toNat:=by
  rw [BitVec.ofInt_natCast,BitVec.toNat_ofNat]
  simp only [IntKind.bits]
  omega
 rw [e5]
 exact u64N (by omega)
structure GN where
 n : Int
 pos : Int
 code : Int
def encGN (g : GN) : V:=.agg [.int .i64 g.n,.int .i64 g.pos,.int .i64 g.code]
def unzig (u : Int) : Int:=if u % 2 = 1 then -(u / 2) - 1 else u / 2
def gnGo (t : ByteArray) (a : Nat) : Nat → Nat → Int → GN
 | 0,_,_=>⟨0,0,3⟩
 | f + 1,i,u=>if t.size ≤ a + i then ⟨0,0,4⟩ else
   if i = 9 ∧ 1 < byteAt t (a + i) then ⟨0,0,3⟩ else
   if byteAt t (a + i) < 128 then
    if byteAt t (a + i) = 0 ∧ 0 < i then ⟨0,0,3⟩ else ⟨unzig (u + byteAt t (a + i) % 128 * 2 ^ (7 * i)),(a + i + 1 : Nat),0⟩
   else gnGo t a f (i + 1) (u + byteAt t (a + i) % 128 * 2 ^ (7 * i))
def getN (t : ByteArray) (a : Nat) : GN:=gnGo t a 10 0 0
theorem byteAt_b (t : ByteArray) (i : Nat) : 0 ≤ byteAt t i ∧ byteAt t i < 256:=by
 unfold byteAt
 cases t[i]? with
 | none=>simp
 | some b =>
  simp
  have:=b.toNat_lt
  omega
theorem byteAt_get {t : ByteArray} {i : Nat} {x : Int} (h : (intsOf t)[i]? = some x) : byteAt t i = x ∧ i < t.size:=by
 unfold intsOf at h
 rw [Zt] at h
 obtain ⟨b,hb,rfl⟩:=Option.map_eq_some_iff.1 h
 have hi : i < t.data.toList.length:=(Zl.1 hb).1
 have hi2 : i < t.size:=by simpa using hi
 refine ⟨?_,hi2⟩
 have e : t[i]? = some b:=by
  rw [getElem?_pos t i hi2]
  congr 1
  have:=(Zl.1 hb).2
  rw [← this]
  rfl
 unfold byteAt
 rw [e]
 rfl
section
variable {P : Program} [Is P]
structure GT where
 s : ByteArray
 pos : Int
 code : Int
def encGT (g : GT) : V:=.agg [.str g.s,.int .i64 g.pos,.int .i64 g.code]
def getT (t : ByteArray) (a : Nat) : GT :=
 if (getN t a).code ≠ 0 then ⟨⟨#[]⟩,0,(getN t a).code⟩ else
 if (getN t a).n < 0 ∨ 8000 < (getN t a).n then ⟨⟨#[]⟩,0,3⟩ else
 if (t.size : Int) < (getN t a).pos + (getN t a).n then ⟨⟨#[]⟩,0,4⟩ else
 ⟨t.extract (getN t a).pos.toNat ((getN t a).pos + (getN t a).n).toNat,(getN t a).pos + (getN t a).n,0⟩
end
structure Rd where
 pos : Nat
 bad : Bool
def encRd (t : ByteArray) (s : Rd) : List V:=[.str t,.int .i64 s.pos,.bool s.bad]
def sNum (t : ByteArray) (s : Rd) : Int × Rd:=if s.bad = true ∨ (getN t s.pos).code ≠ 0 then (0,⟨s.pos,true⟩) else ((getN t s.pos).n,⟨(getN t s.pos).pos.toNat,false⟩)
def sText (t : ByteArray) (s : Rd) : ByteArray × Rd:=if s.bad = true ∨ (getT t s.pos).code ≠ 0 then (⟨#[]⟩,⟨s.pos,true⟩) else ((getT t s.pos).s,⟨(getT t s.pos).pos.toNat,false⟩)
def iNum (t : ByteArray) (s : Rd) : Int × Rd:=((getN t s.pos).n,⟨(getN t s.pos).pos.toNat,s.bad || ((getN t s.pos).code != 0)⟩)
def iText (t : ByteArray) (s : Rd) : ByteArray × Rd:=((getT t s.pos).s,⟨(getT t s.pos).pos.toNat,s.bad || ((getT t s.pos).code != 0)⟩)
end Go.Proofs.Ytnlobbbbgcdiiaa
end
section
namespace Go.Proofs.Ytnlobbbbgcdiiaa
open Go.Pm
open Go.Gm (Ev Gr)
def txtN (x : ByteArray) : List Int:=numN x.size ++ intsOf x
structure At (t : ByteArray) (s : Rd) (r : List Int) : Prop where
 ok : s.bad = false
 drop : (intsOf t).drop s.pos = r
def prevN (l : List Int) : List Int:=(l.map numN).flatten
def evN (e : Ev) : List Int:=numN e.id ++ (numN e.room ++ (numN e.author ++ (numN e.kind ++ (numN e.key ++ (numN e.n ++ (txtN e.text ++ (numN e.prev.length ++ (prevN e.prev ++ numN e.time))))))))
def iPrev (t : ByteArray) : Nat → Int → Rd → List Int → List Int × Rd
 | 0,_,s,l=>(l,s)
 | f + 1,k,s,l=>if 0 < k ∧ s.bad = false ∧ l.length ≤ 4 then iPrev t f (k - 1) (iNum t s).2 (l ++ [(iNum t s).1]) else (l,s)
def sPrev (t : ByteArray) : Nat → Nat → Int → Rd → List Int → List Int × Rd
 | 0,_,_,s,l=>(l,s)
 | f + 1,i,n,s,l=>if (i : Int) < n ∧ i < 9 ∧ s.bad = false then sPrev t f (i + 1) n (sNum t s).2 (l ++ [(sNum t s).1]) else (l,s)
theorem prevN_cons (p : Int) (l : List Int) : prevN (p :: l) = numN p ++ prevN l:=rfl
def iEv (t : ByteArray) : Ev × Rd :=
 let a:=iNum t ⟨0,false⟩; let b:=iNum t a.2; let c:=iNum t b.2; let d:=iNum t c.2; let e:=iNum t d.2; let f:=iNum t e.2
 let g:=iText t f.2; let k:=iNum t g.2; let p:=iPrev t 5 k.1 k.2 []; let z:=iNum t p.2
 (⟨a.1,b.1,c.1,d.1,e.1,f.1,g.1,p.1,z.1⟩,z.2)
def sEv (t : ByteArray) : Ev × Rd :=
 let a:=sNum t ⟨0,false⟩; let b:=sNum t a.2; let c:=sNum t b.2; let d:=sNum t c.2; let e:=sNum t d.2; let f:=sNum t e.2
 let g:=sText t f.2; let k:=sNum t g.2; let p:=sPrev t 9 0 k.1 k.2 []; let z:=sNum t p.2
 (⟨a.1,b.1,c.1,d.1,e.1,f.1,g.1,p.1,z.1⟩,z.2)
structure EvN (e : Ev) : Prop where
 id : 0 ≤ e.id ∧ e.id ≤ 1000000
 room : 0 ≤ e.room ∧ e.room ≤ 3
 author : 0 ≤ e.author ∧ e.author ≤ 6
 kind : 0 ≤ e.kind ∧ e.kind ≤ 8
 key : 0 ≤ e.key ∧ e.key ≤ 1000000
 n : 0 ≤ e.n ∧ e.n ≤ 100
 text : e.text.size ≤ 30
 pl : e.prev.length ≤ 4
 prev : ∀ p ∈ e.prev,0 ≤ p ∧ p ≤ 1000000
 time : 0 ≤ e.time ∧ e.time ≤ 1000000
def xor32 (a b : Int) : Int:=IntKind.u32.wrap ((BitVec.ofInt IntKind.u32.bits a ^^^ BitVec.ofInt IntKind.u32.bits b).toNat : Int)
def bitC (r : Int) : Int:=if r % 2 = 1 then xor32 (r / 2) 3988292384 else r / 2
def bitsC : Nat → Int → Int
 | 0,r=>r
 | k + 1,r=>bitsC k (bitC r)
def byteC (r c : Int) : Int:=bitsC 8 (xor32 r c)
def regC (l : List Int) : Int:=l.foldl byteC 4294967295
def crcN (l : List Int) : Int:=xor32 (regC l) 4294967295
theorem xor32_b (a b : Int) : 0 ≤ xor32 a b ∧ xor32 a b < 4294967296:=by
 unfold xor32
 have h:=(BitVec.ofInt IntKind.u32.bits a ^^^ BitVec.ofInt IntKind.u32.bits b).isLt
 simp only [IntKind.wrap,IntKind.bits,IntKind.signed] at h ⊢
 simp
 omega
theorem xor32_comm (a b : Int) : xor32 a b = xor32 b a:=by
 unfold xor32
 rw [BitVec.xor_comm]
theorem bitC_b {r : Int} (h : 0 ≤ r ∧ r < 4294967296) : 0 ≤ bitC r ∧ bitC r < 4294967296:=by
 unfold bitC
 split
 ·exact xor32_b _ _
 ·omega
theorem bitsC_b : ∀ (k : Nat) {r : Int},0 ≤ r ∧ r < 4294967296 → 0 ≤ bitsC k r ∧ bitsC k r < 4294967296
 | 0,_,h=>h
 | k + 1,_,h=>bitsC_b k (bitC_b h)
theorem bitsC_s : ∀ (k : Nat) (r : Int),bitsC (k + 1) r = bitC (bitsC k r)
 | 0,r=>rfl
 | k + 1,r=>by
   show bitsC (k + 1) (bitC r) = bitC (bitsC k (bitC r))
   rw [bitsC_s k]
theorem regC_b (l : List Int) : 0 ≤ regC l ∧ regC l < 4294967296:=by
 unfold regC
 have : ∀ (l : List Int) (r : Int),0 ≤ r ∧ r < 4294967296 → 0 ≤ l.foldl byteC r ∧ l.foldl byteC r < 4294967296:=by
  intro l
  induction l with
  | nil=>intro r h; exact h
  | cons x l ih=>intro r h; exact ih _ (bitsC_b 8 (xor32_b _ _))
 exact this l _ (by decide)
theorem crcN_b (l : List Int) : 0 ≤ crcN l ∧ crcN l < 4294967296:=xor32_b _ _
def fourN (c : Int) : List Int:=[c % 256,c / 256 % 256,c / 65536 % 256,c / 16777216 % 256]
def sealN (l : List Int) : List Int:=l ++ fourN (crcN l)
theorem sealN_len (l : List Int) : (sealN l).length = l.length + 4:=by
 unfold sealN fourN
 rw [Za]; rfl
def sealB (t : ByteArray) : ByteArray:=if 7996 < t.size then ⟨#[]⟩ else strOf (sealN (intsOf t))
def unS (t : ByteArray) : ByteArray × Int :=
 if 8000 < t.size then (⟨#[]⟩,2) else if t.size < 4 then (⟨#[]⟩,4) else
 if sealN (intsOf (t.extract 0 (t.size - 4))) = intsOf t then (t.extract 0 (t.size - 4),0) else (⟨#[]⟩,5)
def Byt (l : List Int) : Prop:=∀ x ∈ l,0 ≤ x ∧ x < 256
theorem Byt.app {a b : List Int} (h1 : Byt a) (h2 : Byt b) : Byt (a ++ b):=fun x hx=>(ZJ.1 hx).elim (h1 x) (h2 x)
theorem Byt.txt (x : ByteArray) : Byt (txtN x):=Byt.app (numN_b _) (intsOf_b _)
theorem Byt.prevs : ∀ l : List Int,Byt (prevN l)
 | []=>fun x hx=>absurd hx ZG
 | p :: l=>Byt.app (numN_b p) (Byt.prevs l)
theorem Byt.ev (e : Ev) : Byt (evN e):=Byt.app (numN_b _) (Byt.app (numN_b _) (Byt.app (numN_b _) (Byt.app (numN_b _) (Byt.app (numN_b _) (Byt.app (numN_b _) (Byt.app (Byt.txt _) (Byt.app (numN_b _) (Byt.app (Byt.prevs _) (numN_b _)))))))))
def evT (e : Ev) : ByteArray:=strOf (sealN (evN e))
def evBy (e : Ev) : ByteArray:=if Gm.evRight e then evT e else ⟨#[]⟩
theorem prevN_len : ∀ (l : List Int),(∀ p ∈ l,p ≤ 1000000) → (prevN l).length ≤ 3 * l.length
 | [],_=>by simp [prevN]
 | p :: l,h=>by
   have h1:=prevN_len l fun q hq=>h q (Zp _ hq)
   have h2:=numN_len3 (n:=p) (by have:=h p Zn; omega)
   rw [prevN_cons,Za,Zx]
   omega
theorem evN_len {e : Ev} (h : EvN e) : (evN e).length ≤ 65 ∧ 1 ≤ (evN e).length:=by
 have h1:=numN_len3 (n:=e.id) (by have:=h.id; omega)
 have h2:=numN_len1 (n:=e.room) (by have:=h.room; omega)
 have h3:=numN_len1 (n:=e.author) (by have:=h.author; omega)
 have h4:=numN_len1 (n:=e.kind) (by have:=h.kind; omega)
 have h5:=numN_len3 (n:=e.key) (by have:=h.key; omega)
 have h6:=numN_len2 (n:=e.n) (by have:=h.n; omega)
 have h7:=numN_len1 (n:=(e.text.size : Int)) (by have:=h.text; omega)
 have h8:=numN_len1 (n:=(e.prev.length : Int)) (by have:=h.pl; omega)
 have h9:=prevN_len e.prev fun p hp=>(h.prev p hp).2
 have h10:=numN_len3 (n:=e.time) (by have:=h.time; omega)
 have h11:=h.text
 have h12:=h.pl
 have h13:=numN_pos e.id
 unfold evN txtN
 simp only [Za,intsOf_len]
 omega
theorem evT_size {e : Ev} (h : EvN e) : (evT e).size ≤ 69 ∧ 5 ≤ (evT e).size:=by
 have:=evN_len h
 unfold evT
 rw [strOf_size,sealN_len]
 omega
theorem incrN_prev (id : Int) : ∀ (l : List Int) (p : Option Int),Gm.incrN id p l = true → ∀ q ∈ l,1 ≤ q ∧ q ≤ 1000000
 | [],_,_,q,hq=>absurd hq ZG
 | x :: l,p,h,q,hq=>by
   rw [Gm.incrN,Zb,Zb,Zb] at h
   rcases Zm.1 hq with rfl | hq
   ·exact Gm.isB_iff.1 h.1
   ·exact incrN_prev id l (some x) h.2.2.2 q hq
theorem bodyR_n {e : Ev} (h : Gm.bodyR e = true) : (0 ≤ e.kind ∧ e.kind ≤ 8) ∧ (0 ≤ e.key ∧ e.key ≤ 1000000) ∧ (0 ≤ e.n ∧ e.n ≤ 100) ∧ e.text.size ≤ 30:=by
 have hs : ∀ {n : Nat},((n : Int) == 0) = true → n ≤ 30:=fun {n} h=>by rw [beq_iff_eq] at h; omega
 unfold Gm.bodyR at h
 split at h
 ·simp only [Zb,beq_iff_eq] at h; omega
 split at h
 ·simp only [Zb,beq_iff_eq,Gm.isB_iff] at h; omega
 split at h
 ·simp only [Zb,beq_iff_eq,Gm.isB_iff] at h; omega
 split at h
 ·simp only [Zb,beq_iff_eq,Gm.isB_iff,decide_eq_true_eq] at h; omega
 split at h
 ·simp only [Zb,beq_iff_eq,Gm.isB_iff] at h; omega
 split at h
 ·simp only [Zb,beq_iff_eq,Gm.isB_iff] at h; omega
 split at h
 ·simp only [Zb,beq_iff_eq,Gm.isB_iff] at h; omega
 ·simp only [Zb,beq_iff_eq,Gm.isB_iff] at h; omega
theorem evRight_n {e : Ev} (h : Gm.evRight e = true) : EvN e:=by
 unfold Gm.evRight Gm.prevR at h
 simp only [Zb,Gm.isB_iff,decide_eq_true_eq] at h
 obtain ⟨h1,h2,h3,h4,⟨h5,h6⟩,h7,h8⟩:=h
 obtain ⟨k1,k2,k3,k4⟩:=bodyR_n h8
 exact ⟨by omega,by omega,by omega,k1,k2,k3,k4,by omega,fun p hp=>by have:=incrN_prev _ _ _ h6 p hp; omega,by omega⟩
def zEr : Ev:=⟨0,0,0,0,0,0,ByteArray.empty,[],0⟩
def erF (rd : ByteArray → Ev × Rd) (t : ByteArray) : Ev × Int :=
 if (unS t).2 ≠ 0 then (zEr,(unS t).2) else if (rd (unS t).1).2.bad = true ∨ evBy (rd (unS t).1).1 ≠ t then (zEr,3) else ((rd (unS t).1).1,0)
def erI:=erF iEv
def erS:=erF sEv
def evsN (l : List Ev) : List Int:=(l.map fun e=>txtN (evT e)).flatten
theorem evsN_cons (e : Ev) (l : List Ev) : evsN (e :: l) = txtN (evT e) ++ evsN l:=rfl
theorem evsN_app (l m : List Ev) : evsN (l ++ m) = evsN l ++ evsN m:=by simp [evsN]
theorem txtN_evT {e : Ev} (h : Gm.evRight e = true) : (txtN (evT e)).length ≤ 71:=by
 have h1:=(evT_size (evRight_n h)).1
 have h2:=numN_len2 (n:=((evT e).size : Int)) (by omega)
 unfold txtN
 rw [Za,intsOf_len]
 omega
theorem evsN_len : ∀ l : List Ev,(∀ e ∈ l,Gm.evRight e = true) → (evsN l).length ≤ 71 * l.length
 | [],_=>by simp [evsN]
 | e :: l,h=>by
   have h1:=evsN_len l fun x hx=>h x (Zp _ hx)
   have h2:=txtN_evT (h e Zn)
   rw [evsN_cons,Za,Zx]
   omega
theorem Byt.evs : ∀ l : List Ev,Byt (evsN l)
 | []=>fun x hx=>absurd hx ZG
 | e :: l=>Byt.app (Byt.txt _) (Byt.evs l)
def grNo (o : List Ev) (g : Gr) : List Int:=numN g.room ++ (numN g.events.length ++ (evsN o ++ (numN g.parked.length ++ evsN g.parked)))
theorem Byt.gr (o : List Ev) (g : Gr) : Byt (grNo o g):=Byt.app (numN_b _) (Byt.app (numN_b _) (Byt.app (Byt.evs _) (Byt.app (numN_b _) (Byt.evs _))))
def iEvs (t : ByteArray) (most : Nat) : Nat → Int → Rd → List Ev → List Ev × Rd
 | 0,_,s,out=>(out,s)
 | f + 1,k,s,out=>if 0 < k ∧ s.bad = false then
   if (erI (iText t s).1).2 ≠ 0 ∨ out.length = most then (out,⟨(iText t s).2.pos,true⟩) else iEvs t most f (k - 1) (iText t s).2 (Gm.insE out (erI (iText t s).1).1)
  else (out,s)
def sBad (t : ByteArray) (s : Rd) (out : List Ev) : Bool:=(sText t s).2.bad || (((erS (sText t s).1).2 != 0) || Gm.hasId out (erS (sText t s).1).1.id)
def sEvs (t : ByteArray) (most : Nat) : Nat → Nat → Int → Rd → List Ev → List Ev × Rd
 | 0,_,_,s,out=>(out,s)
 | f + 1,i,n,s,out=>if (i : Int) < n ∧ i ≤ most ∧ s.bad = false then
   if sBad t s out then (out,⟨(sText t s).2.pos,true⟩) else sEvs t most f (i + 1) n (sText t s).2 (Gm.insE out (erS (sText t s).1).1)
  else (out,s)
def iGr (t : ByteArray) : Gr × Rd :=
 let a:=iNum t ⟨0,false⟩; let k:=iNum t a.2; let x:=iEvs t 60 61 k.1 k.2 []; let j:=iNum t x.2; let y:=iEvs t 20 21 j.1 j.2 []
 (⟨a.1,x.1,y.1⟩,y.2)
def sGr (t : ByteArray) : Gr × Rd :=
 let a:=sNum t ⟨0,false⟩; let k:=sNum t a.2; let x:=sEvs t 60 61 0 k.1 k.2 []; let j:=sNum t x.2; let y:=sEvs t 20 21 0 j.1 j.2 []
 (⟨a.1,x.1,y.1⟩,y.2)
theorem right_parts {g : Gr} (h : Gm.grRight g = true) : (1 ≤ g.room ∧ g.room ≤ 3) ∧ (g.events.length ≤ 60 ∧ g.parked.length ≤ 20) ∧ (Gm.Srt g.events ∧ Gm.Srt g.parked) ∧ (∀ e ∈ g.events,Gm.evRight e = true) ∧ (∀ e ∈ g.parked,Gm.evRight e = true):=by
 have hw:=Gm.right_wl h
 unfold Gm.grRight at h
 simp only [Zb] at h
 obtain ⟨h0,h1,h2,h3,_⟩:=h
 unfold Gm.rowR at h1 h2
 rw [Zb,decide_eq_true_eq] at h1 h2
 exact ⟨Gm.isB_iff.1 h0,⟨hw.el,hw.kl⟩,⟨hw.se,hw.sk⟩,fun e he=>((Gm.rowFrom_srt h1.2).2 e he).1,fun e he=>((Gm.rowFrom_srt h2.2).2 e he).1⟩
def zGr : Gr:=⟨0,[],[]⟩
section
variable (by_ : Gr → ByteArray)
def grF (rd : ByteArray → Gr × Rd) (t : ByteArray) : Gr × Int :=
 if (unS t).2 ≠ 0 then (zGr,(unS t).2) else if (rd (unS t).1).2.bad = true ∨ by_ (rd (unS t).1).1 ≠ t then (zGr,3) else ((rd (unS t).1).1,0)
end
theorem fdivN {u k : Nat} : ((u : Int)).fdiv ((k + 1 : Nat) : Int) = ((u / (k + 1) : Nat) : Int):=by
 rw [ZN _ (by omega)]
 omega
theorem putU_lenK : ∀ (k u : Nat),u < 2 ^ (7 * (k + 1)) → (putU u).length ≤ k + 1
 | 0,u,h=>by rw [putU_len1 (by simpa using h)]; exact Zj _
 | k + 1,u,h=>by
   by_cases h1 : u < 128
   ·rw [putU_len1 h1]; omega
   ·have e : 2 ^ (7 * (k + 1 + 1)) = 2 ^ (7 * (k + 1)) * 128:=by rw [show 7 * (k + 1 + 1) = 7 * (k + 1) + 7 by omega,Nat.pow_add]
    have:=putU_lenK k (u / 128) (by rw [e] at h; exact Nat.div_lt_of_lt_mul (by rw [Nat.mul_comm]; exact h))
    rw [putU_ge h1,Zx]; omega
theorem numN_lenK {n : Int} (h : n < 2 ^ 61) : (numN n).length ≤ 9:=putU_lenK 8 _ (by have : (2 : Nat) ^ (7 * (8 + 1)) = 2 ^ 63:=rfl; omega)
theorem rowsOf_nil : rowsOf [] = []:=rfl
theorem rowsOf_snoc (l : List Int) (z : Int) : rowsOf l ++ [[.int .u8 z]] = rowsOf (l ++ [z]):=by rw [rowsOf_append]; rfl
theorem numN_mid {n : Int} (h : n < 2 ^ 61) {l : List Int} {u : Nat} (e : l ++ putU u = numN n) : l.length ≤ 8:=by
 have h1:=numN_lenK h
 have h2:=putU_pos u
 rw [← e,Za] at h1
 omega
section
variable {P : Program} [Is P]
theorem n_numBytes (n : Int) (h0 : 0 ≤ n) (h1 : n < 2 ^ 61) : NCon P 168 [.int .i64 n] (.ar 0 0 (numN n).length) [.arr true 1 (rowsOf (numN n))]:=by
 refine LCon.new (LCon.of (n:=28) (rs:=[.tmp 2]) (Is.fn Try.func168) rfl (Is.call Try.call168) Try.results168 Try.ntmps168 ?_) (pure1 (pure_rows _ _))
 simp only [method_specs_simp,seval]
 rw [zig_bits h0 (by omega)]
 refine SW.while (A:=List Int × Nat) (fun a=>⟨pad 28 [.int .i64 n,.junk,.nil,.int .u64 (a.2 : Nat),.ar 0 0 a.1.length],[.arr true 1 (rowsOf a.1)],[]⟩) (fun a=>a.2) (fun a=>a.2 < 2 ^ 63 ∧ a.1 ++ putU a.2 = numN n) ([],2 * n.toNat) [0] ⟨by simp only; omega,rfl⟩ ?_ ?_
 ·simp only [mvcgen_simp,method_specs_simp,seval,rowsOf_nil]
 ·rintro ⟨l,u⟩ ⟨hu,hl⟩
  simp only at hu hl
  have hlen:=numN_mid h1 hl
  refine CW.sound ?_
  simp only [method_specs_simp,seval]
  refine gB_split (fun h=>?_) (fun h=>?_)
  ·simp only [decide_eq_true_eq] at h
   have hge : ¬ u < 128:=by omega
   have e1 : IntKind.u8.wrap ((BitVec.ofInt IntKind.u8.bits (IntKind.u8.wrap (u : Int)) ||| BitVec.ofInt IntKind.u8.bits 128).toNat : Int) = ((u % 128 + 128 : Nat) : Int):=by
    rw [u8N u,or128' (by omega),Nat.mod_mod_of_dvd _ (by decide)]
   have e2 : ((u : Int)).fdiv (2 ^ min 7 IntKind.u64.bits) = ((u / 128 : Nat) : Int):=fdivN (k:=127)
   rw [putU_ge hge] at hl
   simp only [method_specs_simp,seval,e1,e2,rowsOf_snoc]
   refine ⟨by omega,by omega,?_⟩
   refine Again.mk (l ++ [((u % 128 + 128 : Nat) : Int)],u / 128) [2] ⟨by simp only; omega,by simp only [Zc,Zy,Zz]; exact hl⟩ (by simp only; omega) ?_
   simp only [mvcgen_simp,method_specs_simp,seval]
  ·simp only [decide_eq_false_iff_not,Zh] at h
   have hlt : u < 128:=by omega
   have e1 : IntKind.u8.wrap (u : Int) = (u : Int):=by rw [u8N]; omega
   rw [putU_lt hlt] at hl
   simp only [method_specs_simp,seval,e1,rowsOf_snoc]
   refine ⟨by omega,by omega,?_⟩
   rw [hl]
   have e3 : l.length + 1 = (numN n).length:=by rw [← hl]; simp
   rw [e3]
   refine LResY.mk [2] ?_
   simp only [mvcgen_simp,method_specs_simp,seval]
theorem c_PutNum (n : Int) (h0 : 0 ≤ n) (h1 : n < 2 ^ 61) : Con P 203 [.int .i64 n] (.str (strOf (numN n))):=by
 refine Con.of (n:=6) (rs:=[.tmp 2]) (Is.fn Try.func203) rfl (Is.call Try.call203) Try.results203 Try.ntmps203 trivial ?_
 simp only [method_specs_simp,seval]
 refine clY.new (n_numBytes n h0 h1) (by simp only [method_specs_simp]) ?_
 simp only [method_specs_simp,seval]
 refine bytY.mk (numN n) rfl ?_
 simp only [method_specs_simp,seval]
theorem c_l01Fold (n : Int) (h0 : 0 ≤ n) (h1 : n < 2 ^ 61) : Con P 157 [.int .i64 n] (.int .u64 ((2 * n.toNat : Nat) : Int)):=by
 have hn : decide (n < 0) = false:=by simp; omega
 have e1 : IntKind.u64.wrap n = n:=by simp [IntKind.wrap,IntKind.bits,IntKind.signed]; omega
 have e2 : IntKind.u64.wrap (2 * n) = ((2 * n.toNat : Nat) : Int):=by simp [IntKind.wrap,IntKind.bits,IntKind.signed]; omega
 refine Con.of (n:=14) (rs:=[.tmp 2]) (Is.fn Try.func157) rfl (Is.call Try.call157) Try.results157 Try.ntmps157 trivial ?_
 simp only [method_specs_simp,seval]
 simp only [method_specs_simp,seval,hn,e1,e2]
theorem c_sPutNum (n : Int) (h0 : 0 ≤ n) (h1 : n < 2 ^ 61) : Con P 107 [.int .i64 n] (.str (strOf (numN n))):=by
 refine Con.of (n:=25) (rs:=[.tmp 2]) (Is.fn Try.func107) rfl (Is.call Try.call107) Try.results107 Try.ntmps107 trivial ?_
 simp only [method_specs_simp,seval]
 refine clY.con (c_l01Fold n h0 h1) (by simp only [method_specs_simp]) ?_
 simp only [method_specs_simp,seval]
 refine SW.while (A:=List Int × Nat) (fun a=>⟨pad 25 [.int .i64 n,.junk,.str ⟨#[]⟩,.int .u64 (a.2 : Nat),.ar 0 0 a.1.length],[.arr true 1 (rowsOf a.1)],[]⟩) (fun a=>a.2) (fun a=>a.2 < 2 ^ 63 ∧ a.1 ++ putU a.2 = numN n) ([],2 * n.toNat) [0] ⟨by simp only; omega,rfl⟩ ?_ ?_
 ·simp only [mvcgen_simp,method_specs_simp,seval,rowsOf_nil]
 ·rintro ⟨l,u⟩ ⟨hu,hl⟩
  simp only at hu hl
  have hlen:=numN_mid h1 hl
  refine CW.sound ?_
  simp only [method_specs_simp,seval]
  refine gB_split (fun h=>?_) (fun h=>?_)
  ·simp only [decide_eq_true_eq] at h
   have hge : ¬ u < 128:=by omega
   have e0 : ((u : Int)).tmod 128 = ((u % 128 : Nat) : Int):=by rw [Int.tmod_eq_emod_of_nonneg (by omega)]; omega
   have e1 : IntKind.u8.wrap (IntKind.u64.wrap (((u % 128 : Nat) : Int) + 128)) = ((u % 128 + 128 : Nat) : Int):=by
    have : ((u % 128 : Nat) : Int) + 128 = ((u % 128 + 128 : Nat) : Int):=by omega
    rw [this,u64N (by omega),u8N (u % 128 + 128)]; omega
   have e2 : IntKind.u64.wrap (((u : Int)).tdiv 128) = ((u / 128 : Nat) : Int):=by
    rw [Int.tdiv_eq_ediv_of_nonneg (by omega)]
    have : (u : Int) / 128 = ((u / 128 : Nat) : Int):=by omega
    rw [this,u64N (by omega)]
   rw [putU_ge hge] at hl
   simp only [method_specs_simp,seval,e0,e1,e2,rowsOf_snoc]
   refine ⟨by omega,by omega,?_⟩
   refine Again.mk (l ++ [((u % 128 + 128 : Nat) : Int)],u / 128) [2] ⟨by simp only; omega,by simp only [Zc,Zy,Zz]; exact hl⟩ (by simp only; omega) ?_
   simp only [mvcgen_simp,method_specs_simp,seval]
  ·simp only [decide_eq_false_iff_not,Zh] at h
   have hlt : u < 128:=by omega
   have e1 : IntKind.u8.wrap (u : Int) = (u : Int):=by rw [u8N]; omega
   rw [putU_lt hlt] at hl
   simp only [method_specs_simp,seval,e1,rowsOf_snoc]
   refine ⟨by omega,by omega,?_⟩
   rw [hl]
   have e3 : l.length + 1 = (numN n).length:=by rw [← hl]; simp
   rw [e3]
   refine bytY.mk (numN n) (rowsOf_take _) ?_
   simp only [method_specs_simp,seval]
theorem txt_str (x : ByteArray) : strOf (numN x.size) ++ x = strOf (txtN x):=by rw [txtN,strOf_append,strOf_ints]
theorem c_PutText (x : ByteArray) (h : x.size ≤ 8000) : Con P 171 [.str x] (.str (strOf (txtN x))):=by
 have hb : decide ((x.size : Int) > 8000) = false:=by simp; omega
 have hl:=numN_lenK (n:=(x.size : Int)) (by omega)
 refine Con.of (n:=11) (rs:=[.tmp 2]) (Is.fn Try.func171) rfl (Is.call Try.call171) Try.results171 Try.ntmps171 trivial ?_
 simp only [method_specs_simp,seval]
 simp only [method_specs_simp,seval,hb]
 refine clY.con (c_PutNum x.size (by omega) (by omega)) (by simp only [method_specs_simp]) ?_
 simp only [method_specs_simp,seval,strOf_size]
 exact ⟨by omega,txt_str x⟩
theorem c_sPutText (x : ByteArray) (h : x.size ≤ 8000) : Con P 109 [.str x] (.str (strOf (txtN x))):=by
 have hb : decide ((x.size : Int) > 8000) = false:=by simp; omega
 have hl:=numN_lenK (n:=(x.size : Int)) (by omega)
 refine Con.of (n:=11) (rs:=[.tmp 2]) (Is.fn Try.func109) rfl (Is.call Try.call109) Try.results109 Try.ntmps109 trivial ?_
 simp only [method_specs_simp,seval]
 simp only [method_specs_simp,seval,hb]
 refine clY.con (c_sPutNum x.size (by omega) (by omega)) (by simp only [method_specs_simp]) ?_
 simp only [method_specs_simp,seval,strOf_size]
 exact ⟨by omega,txt_str x⟩
theorem and32 {r : Int} (h : 0 ≤ r ∧ r < 4294967296) : IntKind.u32.wrap ((BitVec.ofInt IntKind.u32.bits r &&& BitVec.ofInt IntKind.u32.bits 1).toNat : Int) = r % 2:=by
 obtain ⟨a,rfl⟩:=Int.eq_ofNat_of_zero_le h.1
 rw [BitVec.toNat_and]
 simp only [IntKind.bits,BitVec.toNat_ofInt]
 have e1 : ((a : Int) % ((2 ^ 32 : Nat) : Int)).toNat = a:=by omega
 have e2 : ((1 : Int) % ((2 ^ 32 : Nat) : Int)).toNat = 1:=by omega
 rw [e1,e2,Nat.and_one_is_mod]
 simp only [IntKind.wrap,IntKind.bits,IntKind.signed]
 simp
 omega
theorem shr32 {r : Int} : r.fdiv (2 ^ min 1 IntKind.u32.bits) = r / 2:=by
 rw [ZN _ (by decide)]
 rfl
theorem u32_id {r : Int} (h : 0 ≤ r ∧ r < 4294967296) : IntKind.u32.wrap r = r:=by simp [IntKind.wrap,IntKind.bits,IntKind.signed]; omega
theorem ints_get {x : ByteArray} {i : Nat} (h : i < x.size) : (intsOf x)[i]? = some (byteAt x i):=by
 obtain ⟨y,hy⟩ : ∃ y,(intsOf x)[i]? = some y:=⟨_,Zd (by rw [intsOf_len]; exact h)⟩
 rw [hy,(byteAt_get hy).1]
theorem regC_s {x : ByteArray} {i : Nat} (h : i < x.size) : regC ((intsOf x).take (i + 1)) = byteC (regC ((intsOf x).take i)) (byteAt x i):=by
 rw [Ye,ints_get h,Yf]
 unfold regC
 rw [List.foldl_append]
 rfl
theorem xor_0 : IntKind.u32.wrap ((BitVec.ofInt IntKind.u32.bits (IntKind.u32.wrap 0) ^^^ BitVec.ofInt IntKind.u32.bits 4294967295).toNat : Int) = 4294967295:=by decide
theorem c_l01Crc (x : ByteArray) (h : x.size ≤ 8000) : Con P 159 [.int .i64 0,.str x] (.int .i64 (crcN (intsOf x))):=by
 have hx32 : ∀ a b : Int,IntKind.u32.wrap ((BitVec.ofInt IntKind.u32.bits a ^^^ BitVec.ofInt IntKind.u32.bits b).toNat : Int) = xor32 a b:=fun _ _=>rfl
 refine Con.of (n:=38) (rs:=[.tmp 4]) (Is.fn Try.func159) rfl (Is.call Try.call159) Try.results159 Try.ntmps159 trivial ?_
 simp only [method_specs_simp,seval]
 rw [xor_0]
 refine SW.while (A:=Nat) (fun i=>⟨pad 38 [.int .i64 0,.str x,.junk,.junk,.int .i64 0,.int .u32 (regC ((intsOf x).take i)),.int .i64 i],[],[]⟩) (fun i=>x.size - i) (fun i=>i ≤ x.size) 0 [] (Zk _) ?_ ?_
 ·simp only [mvcgen_simp,method_specs_simp,seval,ZO,regC,List.foldl_nil]
  try rfl
 ·intro i hi
  have w1 : IntKind.i64.wrap ((i : Int) + 1) = ((i + 1 : Nat) : Int):=wadd1 i (by omega)
  refine CW.sound ?_
  simp only [method_specs_simp,seval]
  refine gB_split (fun h=>?_) (fun h=>?_)
  ·simp only [decide_eq_true_eq,Ze] at h
   have hbt:=byteAt_b x i
   obtain ⟨c,hc⟩ : ∃ c,byteAt x i = c:=⟨_,rfl⟩
   have hreg:=regC_s h
   obtain ⟨r,hr⟩ : ∃ r,regC ((intsOf x).take i) = r:=⟨_,rfl⟩
   have hrb:=regC_b ((intsOf x).take i)
   rw [hr] at hrb hreg
   rw [hc] at hbt hreg
   simp only [method_specs_simp,seval,hc,hr,u32_id (r:=c) (by omega),hx32]
   refine ⟨by omega,by omega,?_⟩
   refine SW.while (A:=Nat) (fun k=>⟨pad 38 [.int .i64 0,.str x,.junk,.junk,.int .i64 0,.int .u32 (bitsC k (xor32 r c)),.int .i64 i,.int .i64 k],[],[]⟩) (fun k=>8 - k) (fun k=>k ≤ 8) 0 [] (Zk _) ?_ ?_
   ·simp only [mvcgen_simp,method_specs_simp,seval,bitsC]
   ·intro k hk
    have w2 : IntKind.i64.wrap ((k : Int) + 1) = ((k + 1 : Nat) : Int):=wadd1 k (by omega)
    obtain ⟨z,hz⟩ : ∃ z,bitsC k (xor32 r c) = z:=⟨_,rfl⟩
    have hzb : 0 ≤ z ∧ z < 4294967296:=by rw [← hz]; exact bitsC_b k (xor32_b _ _)
    have hbs:=bitsC_s k (xor32 r c)
    rw [hz] at hbs
    refine CW.sound ?_
    simp only [method_specs_simp,seval,hz]
    refine gB_split (fun h2=>?_) (fun h2=>?_)
    ·have h2 : k < 8:=by simp only [decide_eq_true_eq] at h2; omega
     simp only [method_specs_simp,seval,and32 hzb,shr32]
     refine gB_split (fun h3=>?_) (fun h3=>?_)
     ·rw [beq_iff_eq] at h3
      refine Again.mk (k + 1) [] (by omega) (by omega) ?_
      rw [hbs,bitC,if_pos h3]
      simp only [mvcgen_simp,method_specs_simp,seval,w2,hx32]
     ·have h3 : ¬ z % 2 = 1:=by simpa using h3
      refine Again.mk (k + 1) [] (by omega) (by omega) ?_
      rw [hbs,bitC,if_neg h3]
      simp only [mvcgen_simp,method_specs_simp,seval,w2]
    ·have h2 : k = 8:=by simp only [decide_eq_false_iff_not,Zh] at h2; omega
     subst h2
     refine Again.mk (i + 1) [] h (Ys h (Nat.lt_succ_self _)) ?_
     rw [hreg,byteC,hz]
     simp only [mvcgen_simp,method_specs_simp,seval,w1]
  ·have h2 : i = x.size:=by simp only [decide_eq_false_iff_not,Zh,Ze] at h; omega
   subst h2
   have e1 : (intsOf x).take x.size = intsOf x:=Zs (by rw [intsOf_len]; exact Zj _)
   have hcb:=crcN_b (intsOf x)
   rw [e1]
   simp only [method_specs_simp,seval,hx32]
   rw [show xor32 (regC (intsOf x)) 4294967295 = crcN (intsOf x) from rfl,wrap_id (by omega) (by omega)]
theorem c_crcFrom (x : ByteArray) (h : x.size ≤ 8000) : Con P 204 [.int .u32 0,.str x] (.int .u32 (crcN (intsOf x))):=by
 have hx32 : ∀ a b : Int,IntKind.u32.wrap ((BitVec.ofInt IntKind.u32.bits a ^^^ BitVec.ofInt IntKind.u32.bits b).toNat : Int) = xor32 a b:=fun _ _=>rfl
 have e0 : IntKind.u32.wrap ((BitVec.ofInt IntKind.u32.bits (if IntKind.u32.signed = true then -1 else IntKind.u32.max) ^^^ BitVec.ofInt IntKind.u32.bits 0).toNat : Int) = 4294967295:=by decide
 have e2 : (if IntKind.u32.signed = true then -1 else IntKind.u32.max) = 4294967295:=by decide
 refine Con.of (n:=35) (rs:=[.tmp 4]) (Is.fn Try.func204) rfl (Is.call Try.call204) Try.results204 Try.ntmps204 trivial ?_
 simp only [method_specs_simp,seval]
 rw [e0]
 refine SW.while (A:=Nat) (fun i=>⟨pad 35 [.int .u32 0,.str x,.junk,.junk,.int .u32 0,.int .u32 (regC ((intsOf x).take i)),.junk,.junk,.junk,.junk,.junk,.int .i64 x.size,.int .i64 i],[],[]⟩) (fun i=>x.size - i) (fun i=>i ≤ x.size) 0 [] (Zk _) ?_ ?_
 ·simp only [mvcgen_simp,method_specs_simp,seval,ZO,regC,List.foldl_nil]
  try rfl
 ·intro i hi
  have w1 : IntKind.i64.wrap ((i : Int) + 1) = ((i + 1 : Nat) : Int):=wadd1 i (by omega)
  refine CW.sound ?_
  simp only [method_specs_simp,seval]
  refine gB_split (fun h=>?_) (fun h=>?_)
  ·simp only [decide_eq_true_eq,Ze] at h
   have hbt:=byteAt_b x i
   obtain ⟨c,hc⟩ : ∃ c,byteAt x i = c:=⟨_,rfl⟩
   have hreg:=regC_s h
   obtain ⟨r,hr⟩ : ∃ r,regC ((intsOf x).take i) = r:=⟨_,rfl⟩
   have hrb:=regC_b ((intsOf x).take i)
   rw [hr] at hrb hreg
   rw [hc] at hbt hreg
   simp only [method_specs_simp,seval,hc,hr,u32_id (r:=c) (by omega),hx32]
   refine ⟨by omega,by omega,?_⟩
   refine SW.while (A:=Nat × V) (fun k=>⟨pad 35 [.int .u32 0,.str x,.junk,.junk,.int .u32 0,.int .u32 (bitsC k.1 (xor32 r c)),.int .i64 i,.junk,.junk,.junk,.junk,.int .i64 x.size,.int .i64 i,.junk,.junk,.junk,.junk,.junk,.junk,.junk,.junk,.int .i64 k.1],[],[]⟩) (fun k=>8 - k.1) (fun k=>k.1 ≤ 8) (0,.junk) [] (Zk _) ?_ ?_
   ·simp only [mvcgen_simp,method_specs_simp,seval,bitsC]
   ·rintro ⟨k,_⟩ hk
    simp only at hk
    have w2 : IntKind.i64.wrap ((k : Int) + 1) = ((k + 1 : Nat) : Int):=wadd1 k (by omega)
    obtain ⟨z,hz⟩ : ∃ z,bitsC k (xor32 r c) = z:=⟨_,rfl⟩
    have hzb : 0 ≤ z ∧ z < 4294967296:=by rw [← hz]; exact bitsC_b k (xor32_b _ _)
    have hbs:=bitsC_s k (xor32 r c)
    rw [hz] at hbs
    refine CW.sound ?_
    simp only [method_specs_simp,seval,hz]
    refine gB_split (fun h2=>?_) (fun h2=>?_)
    ·have h2 : k < 8:=by simp only [decide_eq_true_eq] at h2; omega
     simp only [method_specs_simp,seval,and32 hzb,shr32]
     refine gB_split (fun h3=>?_) (fun h3=>?_)
     ·rw [beq_iff_eq] at h3
      refine Again.mk (k + 1,.junk) [] (by simp only; omega) (by simp only; omega) ?_
      simp only
      rw [hbs,bitC,if_pos h3]
      simp only [mvcgen_simp,method_specs_simp,seval,w2,hx32]
     ·have h3 : ¬ z % 2 = 1:=by simpa using h3
      refine Again.mk (k + 1,.junk) [] (by simp only; omega) (by simp only; omega) ?_
      simp only
      rw [hbs,bitC,if_neg h3]
      simp only [mvcgen_simp,method_specs_simp,seval,w2]
    ·have h2 : k = 8:=by simp only [decide_eq_false_iff_not,Zh] at h2; omega
     subst h2
     refine Again.mk (i + 1) [] h (Ys h (Nat.lt_succ_self _)) ?_
     rw [hreg,byteC,hz]
     simp only [mvcgen_simp,method_specs_simp,seval,w1]
  ·have h2 : i = x.size:=by simp only [decide_eq_false_iff_not,Zh,Ze] at h; omega
   subst h2
   have e1 : (intsOf x).take x.size = intsOf x:=Zs (by rw [intsOf_len]; exact Zj _)
   rw [e1]
   simp only [method_specs_simp,seval,e2,hx32]
   rw [xor32_comm]
   rfl
theorem four8 (c : Int) : IntKind.u8.wrap c = c % 256:=by simp [IntKind.wrap,IntKind.bits,IntKind.signed]
theorem shrK (c : Int) (k : IntKind) (n : Nat) (h : min n k.bits = n) : c.fdiv (2 ^ min n k.bits) = c / 2 ^ n:=by
 rw [h,ZN _ (Int.le_of_lt (Int.pow_pos (by decide)))]
theorem c_l01Four (c : Int) : Con P 158 [.int .i64 c] (.str (strOf (fourN c))):=by
 have e1 : c.fdiv (2 ^ min 8 IntKind.i64.bits) = c / 256:=shrK c .i64 8 rfl
 have e2 : c.fdiv (2 ^ min 16 IntKind.i64.bits) = c / 65536:=shrK c .i64 16 rfl
 have e3 : c.fdiv (2 ^ min 24 IntKind.i64.bits) = c / 16777216:=shrK c .i64 24 rfl
 refine Con.of (n:=16) (rs:=[.tmp 2]) (Is.fn Try.func158) rfl (Is.call Try.call158) Try.results158 Try.ntmps158 trivial ?_
 simp only [method_specs_simp,seval]
 simp only [method_specs_simp,seval,e1,e2,e3,four8]
 refine bytY.mk (fourN c) rfl ?_
 simp only [method_specs_simp,seval]
theorem c_sSeal (x : ByteArray) : Con P 112 [.str x] (.str (sealB x)):=by
 unfold sealB
 by_cases h : 7996 < x.size
 ·have hb : decide ((x.size : Int) > 7996) = true:=by simp; omega
  rw [if_pos h]
  refine Con.of (n:=11) (rs:=[.tmp 2]) (Is.fn Try.func112) rfl (Is.call Try.call112) Try.results112 Try.ntmps112 trivial ?_
  simp only [method_specs_simp,seval]
  simp only [method_specs_simp,seval,hb]
 ·have hb : decide ((x.size : Int) > 7996) = false:=by simp; omega
  rw [if_neg h,sealN,strOf_append,strOf_ints]
  have hf : (strOf (fourN (crcN (intsOf x)))).size = 4:=strOf_size _
  refine Con.of (n:=11) (rs:=[.tmp 2]) (Is.fn Try.func112) rfl (Is.call Try.call112) Try.results112 Try.ntmps112 trivial ?_
  simp only [method_specs_simp,seval]
  simp only [method_specs_simp,seval,hb]
  refine clY.con (c_l01Crc x (by omega)) (by simp only [method_specs_simp]) ?_
  simp only [method_specs_simp,seval]
  refine clY.con (c_l01Four (crcN (intsOf x))) (by simp only [method_specs_simp]) ?_
  simp only [method_specs_simp,seval,hf]
  omega
theorem c_Seal (x : ByteArray) : Con P 173 [.str x] (.str (sealB x)):=by
 unfold sealB
 by_cases h : 7996 < x.size
 ·have hb : decide ((x.size : Int) > 7996) = true:=by simp; omega
  rw [if_pos h]
  refine Con.of (n:=24) (rs:=[.tmp 2]) (Is.fn Try.func173) rfl (Is.call Try.call173) Try.results173 Try.ntmps173 trivial ?_
  simp only [method_specs_simp,seval]
  simp only [method_specs_simp,seval,hb]
 ·have hb : decide ((x.size : Int) > 7996) = false:=by simp; omega
  rw [if_neg h,sealN,strOf_append,strOf_ints]
  have hf : (strOf (fourN (crcN (intsOf x)))).size = 4:=strOf_size _
  obtain ⟨c,hc⟩ : ∃ c,crcN (intsOf x) = c:=⟨_,rfl⟩
  have e1 : c.fdiv (2 ^ min 8 IntKind.u32.bits) = c / 256:=shrK c .u32 8 rfl
  have e2 : c.fdiv (2 ^ min 16 IntKind.u32.bits) = c / 65536:=shrK c .u32 16 rfl
  have e3 : c.fdiv (2 ^ min 24 IntKind.u32.bits) = c / 16777216:=shrK c .u32 24 rfl
  refine Con.of (n:=24) (rs:=[.tmp 2]) (Is.fn Try.func173) rfl (Is.call Try.call173) Try.results173 Try.ntmps173 trivial ?_
  simp only [method_specs_simp,seval]
  simp only [method_specs_simp,seval,hb]
  refine clY.con (c_crcFrom x (by omega)) (by simp only [method_specs_simp]) ?_
  simp only [method_specs_simp,seval]
  rw [hc] at hf ⊢
  simp only [method_specs_simp,seval,e1,e2,e3,four8]
  refine bytY.mk (fourN c) rfl ?_
  simp only [method_specs_simp,seval,hf]
  omega
end
theorem prevN_s {l : List Int} {k : Nat} {p : Int} (h : l[k]? = some p) : prevN (l.take (k + 1)) = prevN (l.take k) ++ numN p:=by
 unfold prevN
 rw [Ye,h,Yf,ZR,List.flatten_append]
 simp
theorem prevN_le {l : List Int} (h : ∀ p ∈ l,0 ≤ p ∧ p ≤ 1000000) (k : Nat) (hk : k ≤ l.length) : (prevN (l.take k)).length ≤ 3 * k:=by
 have:=prevN_len (l.take k) fun p hp=>(h p (Yt hp)).2
 rw [Ya] at this
 omega
def sixL (e : Ev) : List Int:=[e.id,e.room,e.author,e.kind,e.key,e.n]
def headN (e : Ev) : List Int:=prevN (sixL e) ++ (txtN e.text ++ numN e.prev.length)
theorem evN_head (e : Ev) : evN e = headN e ++ (prevN e.prev ++ numN e.time):=by
 unfold evN headN sixL prevN
 simp only [Zr,ZT,Yu,Yg,Zc,ZP]
theorem sixL_b {e : Ev} (h : EvN e) : ∀ p ∈ sixL e,0 ≤ p ∧ p ≤ 1000000:=fun p hp=>by
 have h1:=h.id; have h2:=h.room; have h3:=h.author; have h4:=h.kind; have h5:=h.key; have h6:=h.n
 simp only [sixL,Zm,ZG,or_false] at hp
 rcases hp with rfl | rfl | rfl | rfl | rfl | rfl <;> omega
theorem headN_len {e : Ev} (h : EvN e) : (headN e).length ≤ 50 ∧ (prevN (sixL e)).length ≤ 18 ∧ (txtN e.text).length ≤ 31:=by
 have h1:=prevN_le (sixL_b h) 6 (by simp [sixL])
 have h2:=numN_len1 (n:=(e.text.size : Int)) (by have:=h.text; omega)
 have h3:=numN_len1 (n:=(e.prev.length : Int)) (by have:=h.pl; omega)
 have h4:=h.text
 have e1 : (sixL e).take 6 = sixL e:=rfl
 rw [e1] at h1
 unfold headN txtN
 simp only [Za,intsOf_len]
 omega
theorem convs_r8w {m : List Ob} {a b c d e f g h : V} {l : List V} : convs m (r8 a b c d e f g h l) = r8 (conv m a) (conv m b) (conv m c) (conv m d) (conv m e) (conv m f) (conv m g) (conv m h) (convs m l):=rfl
theorem conv_junkw {m : List Ob} : conv m .junk = .junk:=rfl
theorem sealB_ev {e : Ev} (h : EvN e) : sealB (strOf (evN e)) = evT e:=by
 have:=evN_len h
 unfold sealB evT
 rw [if_neg (by rw [strOf_size]; omega),intsOf_str (Byt.ev e)]
section
variable {P : Program} [Is P]
theorem c_EventBytes (e : Ev) (he : EvOK e) : Con P 172 [.agg (encEv e)] (.str (evBy e)):=by
 unfold evBy
 cases hr : Gm.evRight e with
 | false =>
  have hc:=c_EventRight (P:=P) e he
  rw [hr] at hc
  refine Con.of (n:=64) (rs:=[.tmp 2]) (Is.fn Try.func172) rfl (Is.call Try.call172) Try.results172 Try.ntmps172 trivial ?_
  simp only [method_specs_simp,seval,encEv]
  refine clY.con hc (by simp only [method_specs_simp,encEv]) ?_
  simp only [method_specs_simp,seval,encEv]
 | true =>
  have hc:=c_EventRight (P:=P) e he
  rw [hr] at hc
  have hn:=evRight_n hr
  have hsb:=sixL_b hn
  obtain ⟨hd1,hd2,hd3⟩:=headN_len hn
  have hpl:=hn.pl
  refine Con.ofS (n:=64) (rs:=[.tmp 2]) (Is.fn Try.func172) rfl (Is.call Try.call172) Try.results172 Try.ntmps172 trivial ?_
  refine SW.seq (CW.sound ?_)
  simp only [method_specs_simp,seval,encEv]
  refine SW.seq (CW.sound ?_)
  simp only [method_specs_simp,seval,encEv]
  refine clY.con hc (by simp only [method_specs_simp,encEv]) ?_
  simp only [method_specs_simp,seval,encEv]
  refine SW.seq (CW.sound ?_)
  simp only [method_specs_simp,seval,encEv]
  refine SW.seq (CW.sound ?_)
  simp only [method_specs_simp,seval,encEv]
  refine SW.while (A:=Nat) (fun k=>⟨pad 64 [.agg (encEv e),.ptr 0 0,.str ⟨#[]⟩,.ar 1 0 (prevN ((sixL e).take k)).length,.junk,.junk,.junk,.junk,.junk,.junk,.junk,.junk,.junk,.junk,.junk,.junk,.junk,.junk,.junk,.junk,.junk,.junk,.junk,.junk,.ar 2 0 6,.int .i64 6,.int .i64 k],[.box true (encEv e),.arr true 1 (rowsOf (prevN ((sixL e).take k))),.arr true 1 ((sixL e).map encI)],[]⟩) (fun k=>6 - k) (fun k=>k ≤ 6) 0 [0,1,2] (Zk _) ?_ ?_
  ·simp only [mvcgen_simp,method_specs_simp,seval,encEv,sixL,encI,ZO,prevN,Yg,rowsOf_nil]
  ·intro k hk
   have w1 : IntKind.i64.wrap ((k : Int) + 1) = ((k + 1 : Nat) : Int):=wadd1 k (by omega)
   have hsl : (sixL e).length = 6:=rfl
   refine CW.sound ?_
   simp only [method_specs_simp,seval,encEv]
   refine gB_split (fun h=>?_) (fun h=>?_)
   ·have h : k < 6:=by simp only [decide_eq_true_eq] at h; omega
    obtain ⟨x,hx⟩ : ∃ x,(sixL e)[k]? = some x:=⟨_,Zd (by rw [hsl]; exact h)⟩
    have hb:=hsb x (Zf hx)
    have hps:=prevN_s hx
    have hpl1:=prevN_le hsb k (by rw [hsl]; omega)
    have hpl2:=numN_len3 (n:=x) (by omega)
    have hrw : rowsOf (prevN ((sixL e).take k)) ++ rowsOf (numN x) = rowsOf (prevN ((sixL e).take (k + 1))):=by rw [hps,rowsOf_append]
    have hle : (prevN ((sixL e).take k)).length + (numN x).length = (prevN ((sixL e).take (k + 1))).length:=by rw [hps,Za]
    simp only [method_specs_simp,seval,encEv,hx,encI,hsl]
    refine ⟨by omega,by omega,?_⟩
    refine clY.new (n_numBytes x (by omega) (by omega)) (by simp only [method_specs_simp,encEv]) ?_
    simp only [method_specs_simp,seval,encEv]
    refine ⟨by omega,by omega,?_⟩
    rw [hrw,hle]
    refine Again.mk (k + 1) [0,4,2] h (by omega) ?_
    simp only [mvcgen_simp,method_specs_simp,seval,encEv,w1]
   ·have hk2 : k = 6:=by simp only [decide_eq_false_iff_not,Zh] at h; omega
    subst hk2
    have e6 : (sixL e).take 6 = sixL e:=rfl
    rw [e6]
    refine SW.freeze [0] ?_
    simp only [mvcgen_simp,method_specs_simp,seval,encEv,convs_r8w,conv_junkw]
    refine SW.seq (SW.drawnP [0,1,2,3,5,6,7,4,8,9,10] [0,1,2,3,7,4,5,6,8,9,10] [4,5,6] 7 mixed (by kernel_rfl) (by kernel_rfl) (by kernel_rfl) (by kernel_rfl) ?_ ?_)
    ·simp only [method_specs_simp,seval,encEv]
    show RQi P _ _ _ _ _
    simp only [method_specs_simp,seval,encEv]
    have hI : intsOf (strOf (txtN e.text)) = txtN e.text:=intsOf_str (Byt.txt _)
    have hts:=hn.text
    refine clY.con (c_PutText e.text (by omega)) (by simp only [method_specs_simp,encEv]) ?_
    simp only [method_specs_simp,seval,encEv,hI]
    refine ⟨by omega,by omega,?_⟩
    refine clY.new (n_numBytes e.prev.length (by omega) (by omega)) (by simp only [method_specs_simp,encEv]) ?_
    simp only [method_specs_simp,seval,encEv]
    have hnl:=numN_lenK (n:=(e.prev.length : Int)) (by omega)
    have hrw : rowsOf (prevN (sixL e)) ++ rowsOf (txtN e.text) ++ rowsOf (numN e.prev.length) = rowsOf (headN e ++ prevN (e.prev.take 0)):=by
     unfold headN
     rw [show prevN (e.prev.take 0) = [] from rfl,ZP,rowsOf_append,rowsOf_append,Zc]
    have hle : (prevN (sixL e)).length + (txtN e.text).length + (numN e.prev.length).length = (headN e ++ prevN (e.prev.take 0)).length:=by
     unfold headN
     rw [show prevN (e.prev.take 0) = [] from rfl,ZP,Za,Za]; omega
    refine ⟨by omega,by omega,?_⟩
    rw [hrw,hle]
    refine SW.seq (CW.sound ?_)
    simp only [method_specs_simp,seval,encEv]
    refine SW.while (A:=Nat) (fun k=>⟨pad 64 [.junk,.fptr (encEv e) 0,.str ⟨#[]⟩,.ar 0 0 (headN e ++ prevN (e.prev.take k)).length,.junk,.junk,.junk,.junk,.junk,.junk,.junk,.junk,.junk,.junk,.junk,.junk,.junk,.junk,.junk,.junk,.junk,.junk,.junk,.junk,.junk,.junk,.junk,.junk,.junk,.junk,.junk,.junk,.junk,.junk,.junk,.junk,.junk,.junk,.junk,.junk,.junk,.junk,.junk,.junk,.junk,.junk,.sl 1 (e.prev.map encI),.int .i64 e.prev.length,.int .i64 k],[.arr true 1 (rowsOf (headN e ++ prevN (e.prev.take k)))],[]⟩) (fun k=>e.prev.length - k) (fun k=>k ≤ e.prev.length) 0 [5] (Zk _) ?_ ?_
    ·simp only [mvcgen_simp,method_specs_simp,seval,encEv]
    ·intro k hk
     have w1 : IntKind.i64.wrap ((k : Int) + 1) = ((k + 1 : Nat) : Int):=wadd1 k (by omega)
     have hp:=hn.prev
     have hpb:=prevN_le hp k hk
     refine CW.sound ?_
     simp only [method_specs_simp,seval,encEv]
     refine gB_split (fun h=>?_) (fun h=>?_)
     ·simp only [decide_eq_true_eq,Ze] at h
      obtain ⟨x,hx⟩ : ∃ x,e.prev[k]? = some x:=⟨_,Zd h⟩
      have hb:=hp x (Zf hx)
      have hps:=prevN_s hx
      have hpl2:=numN_len3 (n:=x) (by omega)
      have hrw : rowsOf (headN e ++ prevN (e.prev.take k)) ++ rowsOf (numN x) = rowsOf (headN e ++ prevN (e.prev.take (k + 1))):=by rw [hps,← rowsOf_append,Zc]
      have hle : (headN e ++ prevN (e.prev.take k)).length + (numN x).length = (headN e ++ prevN (e.prev.take (k + 1))).length:=by rw [hps]; simp only [Za]; omega
      simp only [method_specs_simp,seval,encEv,hx,encI]
      refine ⟨by omega,by omega,?_⟩
      refine clY.new (n_numBytes x (by omega) (by omega)) (by simp only [method_specs_simp,encEv]) ?_
      simp only [method_specs_simp,seval,encEv]
      rw [Za] at *
      refine ⟨by omega,by omega,?_⟩
      rw [hrw,hle]
      refine Again.mk (k + 1) [2] h (by omega) ?_
      simp only [mvcgen_simp,method_specs_simp,seval,encEv,w1]
     ·have hk2 : k = e.prev.length:=by simp only [decide_eq_false_iff_not,Zh,Ze] at h; omega
      subst hk2
      rw [ZQ]
      have htl:=numN_lenK (n:=e.time) (by have:=hn.time; omega)
      have hpl3:=prevN_len e.prev fun p hp2=>(hp p hp2).2
      have hrw3 : rowsOf (headN e ++ prevN e.prev) ++ rowsOf (numN e.time) = rowsOf (evN e):=by rw [evN_head,← rowsOf_append,Zc]
      have hle3 : (headN e).length + (prevN e.prev).length + (numN e.time).length = (evN e).length:=by rw [evN_head]; simp only [Za]; omega
      refine CW.sound ?_
      simp only [method_specs_simp,seval,encEv]
      refine clY.new (n_numBytes e.time hn.time.1 (by have:=hn.time; omega)) (by simp only [method_specs_simp,encEv]) ?_
      simp only [method_specs_simp,seval,encEv]
      refine ⟨by omega,by omega,?_⟩
      rw [hrw3,hle3]
      refine bytY.mk (evN e) (rowsOf_take _) ?_
      simp only [method_specs_simp,seval,encEv]
      refine clY.con (c_Seal (strOf (evN e))) (by simp only [method_specs_simp,encEv]) ?_
      simp only [method_specs_simp,seval,encEv]
      exact sealB_ev hn
theorem c_l02Bytes (e : Ev) (he : EvOK e) (hr : Gm.evRight e = true) : Con P 110 [.agg (encEv e)] (.str (evT e)):=by
 have hn:=evRight_n hr
 have hsb:=sixL_b hn
 obtain ⟨hd1,hd2,hd3⟩:=headN_len hn
 have hpl:=hn.pl
 have l1:=numN_lenK (n:=e.id) (by have:=hn.id; omega)
 have l2:=numN_lenK (n:=e.room) (by have:=hn.room; omega)
 have l3:=numN_lenK (n:=e.author) (by have:=hn.author; omega)
 have l4:=numN_lenK (n:=e.kind) (by have:=hn.kind; omega)
 have l5:=numN_lenK (n:=e.key) (by have:=hn.key; omega)
 have l6:=numN_lenK (n:=e.n) (by have:=hn.n; omega)
 have l7:=numN_lenK (n:=(e.prev.length : Int)) (by omega)
 have l8:=numN_lenK (n:=e.time) (by have:=hn.time; omega)
 have hts:=hn.text
 have hpl3:=prevN_len e.prev fun p hp2=>(hn.prev p hp2).2
 refine Con.of (n:=58) (rs:=[.tmp 2]) (Is.fn Try.func110) rfl (Is.call Try.call110) Try.results110 Try.ntmps110 trivial ?_
 simp only [method_specs_simp,seval,encEv]
 refine ⟨by kernel_rfl,?_⟩
 refine clY.con (c_sPutNum e.id hn.id.1 (by have:=hn.id; omega)) (by simp only [method_specs_simp,encEv]) ?_
 simp only [method_specs_simp,seval,encEv]
 refine clY.con (c_sPutNum e.room hn.room.1 (by have:=hn.room; omega)) (by simp only [method_specs_simp,encEv]) ?_
 simp only [method_specs_simp,seval,encEv]
 simp only [method_specs_simp,seval,encEv,strOf_size,ByteArray.size_append]
 refine ⟨by omega,?_⟩
 refine clY.con (c_sPutNum e.author hn.author.1 (by have:=hn.author; omega)) (by simp only [method_specs_simp,encEv]) ?_
 simp only [method_specs_simp,seval,encEv,strOf_size,ByteArray.size_append]
 refine ⟨by omega,?_⟩
 refine clY.con (c_sPutNum e.kind hn.kind.1 (by have:=hn.kind; omega)) (by simp only [method_specs_simp,encEv]) ?_
 simp only [method_specs_simp,seval,encEv,strOf_size,ByteArray.size_append]
 refine ⟨by omega,?_⟩
 refine clY.con (c_sPutNum e.key hn.key.1 (by have:=hn.key; omega)) (by simp only [method_specs_simp,encEv]) ?_
 simp only [method_specs_simp,seval,encEv,strOf_size,ByteArray.size_append]
 refine ⟨by omega,?_⟩
 refine clY.con (c_sPutNum e.n hn.n.1 (by have:=hn.n; omega)) (by simp only [method_specs_simp,encEv]) ?_
 simp only [method_specs_simp,seval,encEv,strOf_size,ByteArray.size_append]
 refine ⟨by omega,?_⟩
 refine clY.con (c_sPutText e.text (by omega)) (by simp only [method_specs_simp,encEv]) ?_
 simp only [method_specs_simp,seval,encEv,strOf_size,ByteArray.size_append]
 refine ⟨by omega,?_⟩
 refine clY.con (c_sPutNum e.prev.length (by omega) (by omega)) (by simp only [method_specs_simp,encEv]) ?_
 simp only [method_specs_simp,seval,encEv,strOf_size,ByteArray.size_append]
 refine ⟨by omega,?_⟩
 have hd0 : strOf (numN e.id) ++ strOf (numN e.room) ++ strOf (numN e.author) ++ strOf (numN e.kind) ++ strOf (numN e.key) ++ strOf (numN e.n) ++ strOf (txtN e.text) ++ strOf (numN e.prev.length) = strOf (headN e ++ prevN (e.prev.take 0)):=by
  simp only [← strOf_append]
  congr 1
  unfold headN sixL prevN
  simp only [Zr,ZT,Yu,Yg,Zc,ZP,ZO]
 refine SW.while (A:=Nat) (fun k=>⟨pad 58 [.junk,.ptr 0 0,.str ⟨#[]⟩,.str (strOf (headN e ++ prevN (e.prev.take k))),.int .i64 k],[.box true (encEv e)],[]⟩) (fun k=>e.prev.length - k) (fun k=>k ≤ e.prev.length) 0 [0] (Zk _) ?_ ?_
 ·rw [hd0]
  simp only [mvcgen_simp,method_specs_simp,seval,encEv]
 ·intro k hk
  have w1 : IntKind.i64.wrap ((k : Int) + 1) = ((k + 1 : Nat) : Int):=wadd1 k (by omega)
  have hp:=hn.prev
  have hpb:=prevN_le hp k hk
  refine CW.sound ?_
  simp only [method_specs_simp,seval,encEv]
  refine gB_split (fun h=>?_) (fun h=>?_)
  ·simp only [decide_eq_true_eq,Ze] at h
   obtain ⟨x,hx⟩ : ∃ x,e.prev[k]? = some x:=⟨_,Zd h⟩
   have hb:=hp x (Zf hx)
   have hps:=prevN_s hx
   have hpl2:=numN_len3 (n:=x) (by omega)
   have hst : strOf (headN e ++ prevN (e.prev.take k)) ++ strOf (numN x) = strOf (headN e ++ prevN (e.prev.take (k + 1))):=by rw [hps,← strOf_append,Zc]
   simp only [method_specs_simp,seval,encEv,hx,encI]
   refine ⟨by omega,by omega,?_⟩
   refine clY.con (c_sPutNum x (by omega) (by omega)) (by simp only [method_specs_simp,encEv]) ?_
   simp only [method_specs_simp,seval,encEv,strOf_size,Za]
   refine ⟨by omega,?_⟩
   rw [hst]
   refine Again.mk (k + 1) [0] h (by omega) ?_
   simp only [mvcgen_simp,method_specs_simp,seval,encEv,w1]
  ·have hk2 : k = e.prev.length:=by simp only [decide_eq_false_iff_not,Zh,Ze] at h; omega
   subst hk2
   rw [ZQ]
   have hst : strOf (headN e ++ prevN e.prev) ++ strOf (numN e.time) = strOf (evN e):=by rw [evN_head,← strOf_append,Zc]
   refine clY.con (c_sPutNum e.time hn.time.1 (by have:=hn.time; omega)) (by simp only [method_specs_simp,encEv]) ?_
   simp only [method_specs_simp,seval,encEv,strOf_size,Za]
   refine ⟨by omega,?_⟩
   rw [hst]
   refine clY.con (c_sSeal (strOf (evN e))) (by simp only [method_specs_simp,encEv]) ?_
   simp only [method_specs_simp,seval,encEv]
   exact sealB_ev hn
end
def ordV (g : Gr) : List Ev:=(orderE g.events).map fun id=>(atE g.events id).getD zE
theorem atE_self {l : List Ev} (hs : Gm.Srt l) {e : Ev} (he : e ∈ l) : atE l e.id = some e:=by
 obtain ⟨x,_,h2,h3,h4⟩:=at_pos hs (Gm.hasId_iff.2 ⟨e,he,rfl⟩)
 rw [h2]
 obtain ⟨i,hi⟩:=Zq he
 obtain ⟨j,hj⟩:=Zq h4
 rcases Nat.lt_trichotomy i j with q | q | q
 ·have:=hs.get q hi hj; omega
 ·subst q
  rw [hi] at hj
  exact hj.symm
 ·have:=hs.get q hj hi; omega
theorem orderE_perm (l : List Ev) : (orderE l).Perm (l.map (·.id)):=by
 unfold orderE
 refine ((Gm.srtD_perm _ _).map _).trans ?_
 have e : (rangeI l.length).map (idAtP l) = l.map (·.id):=by
  apply List.ext_getElem?
  intro i
  unfold rangeI
  rw [ZH,Zt,Zt]
  by_cases hi : i < l.length
  ·rw [List.getElem?_range hi,Zd hi]
   simp [idAtP,Zd hi]
  ·rw [ZZ (by simp; omega),ZZ (by omega)]; rfl
 rw [e]
theorem ordV_perm {g : Gr} (hs : Gm.Srt g.events) : (ordV g).Perm g.events:=by
 unfold ordV
 refine ((orderE_perm g.events).map _).trans ?_
 rw [ZH]
 have : g.events.map ((fun id=>(atE g.events id).getD zE) ∘ fun x=>x.id) = g.events.map id:=by
  refine Yq fun e he=>?_
  simp only [Function.comp,id]
  rw [atE_self hs he]; rfl
 rw [this,Yd]
def grN (g : Gr) : List Int:=grNo (ordV g) g
def grBy (g : Gr) : ByteArray:=if Gm.grRight g then strOf (sealN (grN g)) else ⟨#[]⟩
theorem grN_len {g : Gr} (h : Gm.grRight g = true) : (grN g).length ≤ 5700:=by
 obtain ⟨r1,⟨r2,r3⟩,⟨r4,r5⟩,r6,r7⟩:=right_parts h
 have hp:=ordV_perm r4
 have h1:=evsN_len (ordV g) fun e he=>r6 e (hp.mem_iff.1 he)
 have h2:=evsN_len g.parked r7
 have h3:=numN_len1 (n:=g.room) (by omega)
 have h4:=numN_len1 (n:=(g.events.length : Int)) (by omega)
 have h5:=numN_len1 (n:=(g.parked.length : Int)) (by omega)
 have h6:=hp.length_eq
 unfold grN grNo
 simp only [Za]
 omega
theorem evsN_s {l : List Ev} {k : Nat} {e : Ev} (h : l[k]? = some e) : evsN (l.take (k + 1)) = evsN (l.take k) ++ txtN (evT e):=by
 rw [Ye,h,Yf,evsN_app]
 congr 1
 simp [evsN]
theorem evsN_le {l : List Ev} (h : ∀ e ∈ l,Gm.evRight e = true) {k : Nat} (hk : k ≤ l.length) : (evsN (l.take k)).length ≤ 71 * k:=by
 have:=evsN_len (l.take k) fun e he=>h e (Yt he)
 rw [Ya] at this
 omega
def hdN (g : Gr) : List Int:=numN g.room ++ numN g.events.length
def mdN (g : Gr) : List Int:=hdN g ++ (evsN (ordV g) ++ numN g.parked.length)
theorem grN_parts (g : Gr) : grN g = mdN g ++ evsN g.parked:=by
 unfold grN grNo mdN hdN
 simp only [Zc]
theorem ordV_get {g : Gr} {k : Nat} {id : Int} (h : (orderE g.events)[k]? = some id) : (ordV g)[k]? = some ((atE g.events id).getD zE):=by
 unfold ordV
 rw [Zt,h]; rfl
theorem sealB_gr {g : Gr} (h : Gm.grRight g = true) : sealB (strOf (grN g)) = strOf (sealN (grN g)):=by
 have:=grN_len h
 unfold sealB
 rw [if_neg (by rw [strOf_size]; omega),intsOf_str (show Byt (grN g) from Byt.gr _ g)]
section
variable {P : Program} [Is P]
theorem c_graphBytes (g : Gr) (hg : GrOK g) (hr : Gm.grRight g = true) : Con P 115 [.agg (encGr g)] (.str (strOf (sealN (grN g)))):=by
 obtain ⟨r1,⟨r2,r3⟩,⟨r4,r5⟩,r6,r7⟩:=right_parts hr
 have hor:=n_order (P:=P) g hg.1 r4 (right_in hr)
 have hol:=orderE_len g.events
 have hvp:=ordV_perm r4
 have hvr : ∀ e ∈ ordV g,Gm.evRight e = true:=fun e he=>r6 e (hvp.mem_iff.1 he)
 have hvl:=hvp.length_eq
 obtain ⟨ids,hids⟩ : ∃ ids,ids = orderE g.events:=⟨_,rfl⟩
 have hidl : ids.length = g.events.length:=by rw [hids,hol]
 rw [← hids] at hor
 have l1:=numN_len1 (n:=g.room) (by omega)
 have l2:=numN_len1 (n:=(g.events.length : Int)) (by omega)
 have l3:=numN_len1 (n:=(g.parked.length : Int)) (by omega)
 have hh : (hdN g).length = 2:=by unfold hdN; rw [Za]; omega
 have hm : (mdN g).length ≤ 71 * g.events.length + 3:=by
  have:=evsN_len (ordV g) hvr
  unfold mdN; simp only [Za]; omega
 refine Con.of (n:=59) (rs:=[.tmp 2]) (Is.fn Try.func115) rfl (Is.call Try.call115) Try.results115 Try.ntmps115 trivial ?_
 simp only [method_specs_simp,seval,encGr]
 refine ⟨by kernel_rfl,?_⟩
 refine clY.new (n_numBytes g.room (by omega) (by omega)) (by simp only [method_specs_simp,encGr]) ?_
 simp only [method_specs_simp,seval,encGr]
 refine clY.new (n_numBytes g.events.length (by omega) (by omega)) (by simp only [method_specs_simp,encGr]) ?_
 simp only [method_specs_simp,seval,encGr]
 refine ⟨by omega,by omega,?_⟩
 refine clY.new (hor) (by simp only [method_specs_simp,encGr]) ?_
 simp only [method_specs_simp,seval,encGr]
 have z0 : rowsOf (numN g.room) ++ rowsOf (numN g.events.length) = rowsOf (hdN g ++ evsN ((ordV g).take 0)):=by rw [← rowsOf_append]; simp [hdN,evsN]
 have z1 : (numN g.room).length + (numN g.events.length).length = (hdN g ++ evsN ((ordV g).take 0)).length:=by simp [hdN,evsN]
 rw [z0,z1]
 refine SW.while (A:=Nat) (fun k=>⟨pad 59 [.junk,.ptr 0 0,.str ⟨#[]⟩,.ar 1 0 (hdN g ++ evsN ((ordV g).take k)).length,.junk,.junk,.junk,.junk,.junk,.junk,.junk,.junk,.junk,.junk,.junk,.junk,.junk,.junk,.junk,.ar 2 0 g.events.length,.int .i64 g.events.length,.int .i64 k],[.box true (encGr g),.arr true 1 (rowsOf (hdN g ++ evsN ((ordV g).take k))),.arr true 1 (ids.map encI)],[]⟩) (fun k=>g.events.length - k) (fun k=>k ≤ g.events.length) 0 [0,3,4] (Zk _) ?_ ?_
 ·simp only [mvcgen_simp,method_specs_simp,seval,encGr]
 ·intro k hk
  have w1 : IntKind.i64.wrap ((k : Int) + 1) = ((k + 1 : Nat) : Int):=wadd1 k (by omega)
  have hle:=evsN_le hvr (k:=k) (by omega)
  refine CW.sound ?_
  simp only [method_specs_simp,seval,encGr,hidl]
  refine gB_split (fun h=>?_) (fun h=>?_)
  ·simp only [decide_eq_true_eq,Ze] at h
   obtain ⟨id,hid⟩ : ∃ id,ids[k]? = some id:=⟨_,Zd (by omega)⟩
   have hv:=ordV_get (g:=g) (by rw [← hids]; exact hid)
   obtain ⟨e,he⟩ : ∃ e,e = (atE g.events id).getD zE:=⟨_,rfl⟩
   rw [← he] at hv
   have hOK : EvOK e:=by rw [he]; exact at_ok hg id
   have hre:=hvr e (Zf hv)
   have hts:=txtN_evT hre
   have hsz:=(evT_size (evRight_n hre)).1
   have hca:=c_at (P:=P) g id hg.1.1 r4
   have hcb:=c_EventBytes (P:=P) e hOK
   unfold evBy at hcb
   rw [if_pos hre] at hcb
   have hI : intsOf (strOf (txtN (evT e))) = txtN (evT e):=intsOf_str (Byt.txt _)
   rw [← he] at hca
   have q1 : rowsOf (hdN g ++ evsN ((ordV g).take k)) ++ rowsOf (txtN (evT e)) = rowsOf (hdN g ++ evsN ((ordV g).take (k + 1))):=by rw [evsN_s hv,← rowsOf_append,Zc]
   have q2 : (hdN g ++ evsN ((ordV g).take k)).length + (txtN (evT e)).length = (hdN g ++ evsN ((ordV g).take (k + 1))).length:=by rw [evsN_s hv]; simp only [Za]; omega
   simp only [method_specs_simp,seval,encGr,hid,encI,hidl]
   refine ⟨by omega,by omega,?_⟩
   refine clY.con hca (by simp only [method_specs_simp,encGr]) ?_
   simp only [method_specs_simp,seval,encGr,encEv]
   refine clY.con hcb (by simp only [method_specs_simp,encEv]) ?_
   simp only [method_specs_simp,seval,encGr]
   refine clY.con (c_PutText (evT e) (by omega)) (by simp only [method_specs_simp,encGr]) ?_
   simp only [method_specs_simp,seval,encGr,hI,Za]
   refine ⟨by omega,by omega,?_⟩
   rw [Za] at q2
   rw [q1,q2]
   refine Again.mk (k + 1) [0,4,2] h (by omega) ?_
   simp only [mvcgen_simp,method_specs_simp,seval,encGr,w1]
  ·have hk2 : k = g.events.length:=by simp only [decide_eq_false_iff_not,Zh,Ze] at h; omega
   subst hk2
   rw [Zs (by omega)]
   refine clY.new (n_numBytes g.parked.length (by omega) (by omega)) (by simp only [method_specs_simp,encGr]) ?_
   simp only [method_specs_simp,seval,encGr]
   have hoe:=evsN_len (ordV g) hvr
   have z2 : rowsOf (hdN g ++ evsN (ordV g)) ++ rowsOf (numN g.parked.length) = rowsOf (mdN g ++ evsN (g.parked.take 0)):=by rw [← rowsOf_append]; simp [mdN,evsN]
   have z3 : (hdN g).length + (evsN (ordV g)).length + (numN g.parked.length).length = (mdN g ++ evsN (g.parked.take 0)).length:=by unfold mdN; simp [evsN]; omega
   refine ⟨by omega,by omega,?_⟩
   rw [z2,z3]
   refine SW.while (A:=Nat) (fun k=>⟨pad 59 [.junk,.ptr 0 0,.str ⟨#[]⟩,.ar 1 0 (mdN g ++ evsN (g.parked.take k)).length,.junk,.junk,.junk,.junk,.junk,.junk,.junk,.junk,.junk,.junk,.junk,.junk,.junk,.junk,.junk,.junk,.junk,.junk,.junk,.junk,.junk,.junk,.junk,.junk,.junk,.junk,.junk,.junk,.junk,.junk,.junk,.junk,.junk,.junk,.junk,.junk,.junk,.junk,.junk,.junk,.sl 9 (g.parked.map encEv),.int .i64 g.parked.length,.int .i64 k],[.box true (encGr g),.arr true 1 (rowsOf (mdN g ++ evsN (g.parked.take k)))],[]⟩) (fun k=>g.parked.length - k) (fun k=>k ≤ g.parked.length) 0 [0,4] (Zk _) ?_ ?_
   ·simp only [mvcgen_simp,method_specs_simp,seval,encGr]
   ·intro k hk
    have w1 : IntKind.i64.wrap ((k : Int) + 1) = ((k + 1 : Nat) : Int):=wadd1 k (by omega)
    have hle:=evsN_le r7 hk
    refine CW.sound ?_
    simp only [method_specs_simp,seval,encGr]
    refine gB_split (fun h=>?_) (fun h=>?_)
    ·simp only [decide_eq_true_eq,Ze] at h
     obtain ⟨e,hv⟩ : ∃ e,g.parked[k]? = some e:=⟨_,Zd h⟩
     have hem:=Zf hv
     have hOK : EvOK e:=hg.2.2 e hem
     have hre:=r7 e hem
     have hts:=txtN_evT hre
     have hsz:=(evT_size (evRight_n hre)).1
     have hcb:=c_EventBytes (P:=P) e hOK
     unfold evBy at hcb
     rw [if_pos hre] at hcb
     have hI : intsOf (strOf (txtN (evT e))) = txtN (evT e):=intsOf_str (Byt.txt _)
     have q1 : rowsOf (mdN g ++ evsN (g.parked.take k)) ++ rowsOf (txtN (evT e)) = rowsOf (mdN g ++ evsN (g.parked.take (k + 1))):=by rw [evsN_s hv,← rowsOf_append,Zc]
     have q2 : (mdN g ++ evsN (g.parked.take k)).length + (txtN (evT e)).length = (mdN g ++ evsN (g.parked.take (k + 1))).length:=by rw [evsN_s hv]; simp only [Za]; omega
     simp only [method_specs_simp,seval,encGr,hv,encEv]
     refine ⟨by omega,by omega,?_⟩
     refine clY.con hcb (by simp only [method_specs_simp,encEv]) ?_
     simp only [method_specs_simp,seval,encGr]
     refine clY.con (c_PutText (evT e) (by omega)) (by simp only [method_specs_simp,encGr]) ?_
     simp only [method_specs_simp,seval,encGr,hI,Za]
     refine ⟨by omega,by omega,?_⟩
     rw [Za] at q2
     rw [q1,q2]
     refine Again.mk (k + 1) [0,3] h (by omega) ?_
     simp only [mvcgen_simp,method_specs_simp,seval,encGr,w1]
    ·have hk2 : k = g.parked.length:=by simp only [decide_eq_false_iff_not,Zh,Ze] at h; omega
     subst hk2
     rw [ZQ,← grN_parts,← Za,← grN_parts]
     refine bytY.mk (grN g) (rowsOf_take _) ?_
     simp only [method_specs_simp,seval,encGr]
     refine clY.con (c_Seal (strOf (grN g))) (by simp only [method_specs_simp,encGr]) ?_
     simp only [method_specs_simp,seval,encGr]
     exact sealB_gr hr
theorem c_GraphBytes (g : Gr) (hg : GrOK g) : Con P 39 [.agg (encGr g)] (.str (grBy g)):=by
 have hc:=c_GraphRight (P:=P) g hg
 unfold grBy
 refine Con.of (n:=8) (rs:=[.tmp 2]) (Is.fn Try.func39) rfl (Is.call Try.call39) Try.results39 Try.ntmps39 trivial ?_
 simp only [method_specs_simp,seval,encGr]
 refine clY.con hc (by simp only [method_specs_simp,encGr]) ?_
 cases hr : Gm.grRight g with
 | false =>
  simp only [method_specs_simp,seval,encGr]
 | true =>
  simp only [method_specs_simp,seval,encGr]
  refine clY.con (c_graphBytes g hg hr) (by simp only [method_specs_simp,encGr]) ?_
  simp only [method_specs_simp,seval,encGr]
theorem c_sGraphBytes (g : Gr) (hg : GrOK g) : Con P 37 [.agg (encGr g)] (.str (grBy g)):=by
 have hc:=c_sGraphRight (P:=P) g hg
 unfold grBy
 cases hr : Gm.grRight g with
 | false =>
  rw [hr] at hc
  refine Con.of (n:=71) (rs:=[.tmp 2]) (Is.fn Try.func37) rfl (Is.call Try.call37) Try.results37 Try.ntmps37 trivial ?_
  simp only [method_specs_simp,seval,encGr]
  refine clY.con hc (by simp only [method_specs_simp,encGr]) ?_
  simp only [method_specs_simp,seval,encGr]
 | true =>
  rw [hr] at hc
  obtain ⟨r1,⟨r2,r3⟩,⟨r4,r5⟩,r6,r7⟩:=right_parts hr
  have hso:=c_l03Sort (P:=P) g hg.1 (right_in hr) (right_pos hr)
  have hol:=orderE_len g.events
  have hvp:=ordV_perm r4
  have hvr : ∀ e ∈ ordV g,Gm.evRight e = true:=fun e he=>r6 e (hvp.mem_iff.1 he)
  have hvl:=hvp.length_eq
  obtain ⟨ids,hids⟩ : ∃ ids,ids = orderE g.events:=⟨_,rfl⟩
  have hidl : ids.length = g.events.length:=by rw [hids,hol]
  rw [← hids] at hso
  have l1:=numN_len1 (n:=g.room) (by omega)
  have l2:=numN_len1 (n:=(g.events.length : Int)) (by omega)
  have l3:=numN_len1 (n:=(g.parked.length : Int)) (by omega)
  have hh : (hdN g).length = 2:=by unfold hdN; rw [Za]; omega
  have hm : (mdN g).length ≤ 71 * g.events.length + 3:=by
   have:=evsN_len (ordV g) hvr
   unfold mdN; simp only [Za]; omega
  refine Con.of (n:=71) (rs:=[.tmp 2]) (Is.fn Try.func37) rfl (Is.call Try.call37) Try.results37 Try.ntmps37 trivial ?_
  simp only [method_specs_simp,seval,encGr]
  refine clY.con hc (by simp only [method_specs_simp,encGr]) ?_
  simp only [method_specs_simp,seval,encGr]
  refine ⟨by kernel_rfl,?_⟩
  refine clY.con (c_sPutNum g.room (by omega) (by omega)) (by simp only [method_specs_simp,encGr]) ?_
  simp only [method_specs_simp,seval,encGr]
  refine clY.con (c_sPutNum g.events.length (by omega) (by omega)) (by simp only [method_specs_simp,encGr]) ?_
  simp only [method_specs_simp,seval,encGr,strOf_size,ByteArray.size_append]
  have hI0 : intsOf (strOf (numN g.room) ++ strOf (numN g.events.length)) = hdN g ++ evsN ((ordV g).take 0):=by
   rw [← strOf_append,intsOf_str (Byt.app (numN_b _) (numN_b _))]; simp [hdN,evsN]
  have z1 : (numN g.room).length + (numN g.events.length).length = (hdN g ++ evsN ((ordV g).take 0)).length:=by simp [hdN,evsN]
  rw [hI0,z1]
  refine ⟨by omega,by omega,?_⟩
  refine clY.con hso (by simp only [method_specs_simp,encGr]) ?_
  simp only [method_specs_simp,seval,encGr]
  refine SW.while (A:=Nat) (fun k=>⟨pad 71 [.junk,.ptr 0 0,.str ⟨#[]⟩,.ar 1 0 (hdN g ++ evsN ((ordV g).take k)).length,.sl 1 (ids.map encI),.int .i64 k],[.box true (encGr g),.arr true 1 (rowsOf (hdN g ++ evsN ((ordV g).take k)))],[]⟩) (fun k=>g.events.length - k) (fun k=>k ≤ g.events.length) 0 [0,1] (Zk _) ?_ ?_
  ·simp only [mvcgen_simp,method_specs_simp,seval,encGr]
  ·intro k hk
   have w1 : IntKind.i64.wrap ((k : Int) + 1) = ((k + 1 : Nat) : Int):=wadd1 k (by omega)
   have hle:=evsN_le hvr (k:=k) (by omega)
   refine CW.sound ?_
   simp only [method_specs_simp,seval,encGr,hidl]
   refine gB_split (fun h=>?_) (fun h=>?_)
   ·simp only [decide_eq_true_eq,Ze] at h
    obtain ⟨id,hid⟩ : ∃ id,ids[k]? = some id:=⟨_,Zd (by omega)⟩
    have hv:=ordV_get (g:=g) (by rw [← hids]; exact hid)
    have hmem : id ∈ g.events.map (·.id):=(orderE_perm g.events).mem_iff.1 (by rw [← hids]; exact Zf hid)
    have hhas : Gm.hasId g.events id = true:=by
     obtain ⟨x,hx,rfl⟩:=ZD.1 hmem
     exact Gm.hasId_iff.2 ⟨x,hx,rfl⟩
    obtain ⟨e,hfe⟩ : ∃ e,atE g.events id = some e:=Option.isSome_iff_exists.1 (by rw [atE_has]; exact hhas)
    rw [hfe,Option.getD_some] at hv
    have hfi : g.events[Gm.fidE g.events id]? = some e:=by rw [fid_at hhas,hfe]
    have hfl:=(Zl.1 hfi).1
    have hOK : EvOK e:=hg.1.2 e (Zf hfi)
    have hre:=hvr e (Zf hv)
    have hts:=txtN_evT hre
    have hsz:=(evT_size (evRight_n hre)).1
    have hI : intsOf (strOf (txtN (evT e))) = txtN (evT e):=intsOf_str (Byt.txt _)
    have q1 : rowsOf (hdN g ++ evsN ((ordV g).take k)) ++ rowsOf (txtN (evT e)) = rowsOf (hdN g ++ evsN ((ordV g).take (k + 1))):=by rw [evsN_s hv,← rowsOf_append,Zc]
    have q2 : (hdN g ++ evsN ((ordV g).take k)).length + (txtN (evT e)).length = (hdN g ++ evsN ((ordV g).take (k + 1))).length:=by rw [evsN_s hv]; simp only [Za]; omega
    simp only [method_specs_simp,seval,encGr,hid,encI,hidl]
    refine ⟨by kernel_rfl,by omega,by omega,?_⟩
    refine clY.con (c_l03At g.events id (by omega)) (by simp only [method_specs_simp]) ?_
    rw [atI_yes hhas]
    simp only [method_specs_simp,seval,encGr,hfi,encEv]
    refine ⟨by omega,by omega,?_⟩
    refine clY.con (c_l02Bytes e hOK hre) (by simp only [method_specs_simp,encEv]) ?_
    simp only [method_specs_simp,seval,encGr]
    refine clY.con (c_sPutText (evT e) (by omega)) (by simp only [method_specs_simp,encGr]) ?_
    simp only [method_specs_simp,seval,encGr,hI,Za]
    refine ⟨by omega,by omega,?_⟩
    rw [Za] at q2
    rw [q1,q2]
    refine Again.mk (k + 1) [0,2] h (by omega) ?_
    simp only [mvcgen_simp,method_specs_simp,seval,encGr,w1]
   ·have hk2 : k = g.events.length:=by simp only [decide_eq_false_iff_not,Zh] at h; omega
    subst hk2
    rw [Zs (by omega)]
    refine clY.con (c_sPutNum g.parked.length (by omega) (by omega)) (by simp only [method_specs_simp,encGr]) ?_
    simp only [method_specs_simp,seval,encGr]
    have hI3 : intsOf (strOf (numN g.parked.length)) = numN g.parked.length:=intsOf_str (numN_b _)
    have hoe:=evsN_len (ordV g) hvr
    have z2 : rowsOf (hdN g ++ evsN (ordV g)) ++ rowsOf (numN g.parked.length) = rowsOf (mdN g ++ evsN (g.parked.take 0)):=by rw [← rowsOf_append]; simp [mdN,evsN]
    have z3 : (hdN g).length + (evsN (ordV g)).length + (numN g.parked.length).length = (mdN g ++ evsN (g.parked.take 0)).length:=by unfold mdN; simp [evsN]; omega
    simp only [method_specs_simp,seval,encGr,hI3]
    refine ⟨by omega,by omega,?_⟩
    rw [z2,z3]
    refine SW.while (A:=Nat) (fun k=>⟨pad 71 [.junk,.ptr 0 0,.str ⟨#[]⟩,.ar 1 0 (mdN g ++ evsN (g.parked.take k)).length,.junk,.junk,.int .i64 k],[.box true (encGr g),.arr true 1 (rowsOf (mdN g ++ evsN (g.parked.take k)))],[]⟩) (fun k=>g.parked.length - k) (fun k=>k ≤ g.parked.length) 0 [0,2] (Zk _) ?_ ?_
    ·simp only [mvcgen_simp,method_specs_simp,seval,encGr]
    ·intro k hk
     have w1 : IntKind.i64.wrap ((k : Int) + 1) = ((k + 1 : Nat) : Int):=wadd1 k (by omega)
     have hle:=evsN_le r7 hk
     refine CW.sound ?_
     simp only [method_specs_simp,seval,encGr]
     refine gB_split (fun h=>?_) (fun h=>?_)
     ·simp only [decide_eq_true_eq,Ze] at h
      obtain ⟨e,hv⟩ : ∃ e,g.parked[k]? = some e:=⟨_,Zd h⟩
      have hem:=Zf hv
      have hOK : EvOK e:=hg.2.2 e hem
      have hre:=r7 e hem
      have hts:=txtN_evT hre
      have hsz:=(evT_size (evRight_n hre)).1
      have hI : intsOf (strOf (txtN (evT e))) = txtN (evT e):=intsOf_str (Byt.txt _)
      have q1 : rowsOf (mdN g ++ evsN (g.parked.take k)) ++ rowsOf (txtN (evT e)) = rowsOf (mdN g ++ evsN (g.parked.take (k + 1))):=by rw [evsN_s hv,← rowsOf_append,Zc]
      have q2 : (mdN g ++ evsN (g.parked.take k)).length + (txtN (evT e)).length = (mdN g ++ evsN (g.parked.take (k + 1))).length:=by rw [evsN_s hv]; simp only [Za]; omega
      simp only [method_specs_simp,seval,encGr,hv,encEv]
      refine ⟨by omega,by omega,?_⟩
      refine clY.con (c_l02Bytes e hOK hre) (by simp only [method_specs_simp,encEv]) ?_
      simp only [method_specs_simp,seval,encGr]
      refine clY.con (c_sPutText (evT e) (by omega)) (by simp only [method_specs_simp,encGr]) ?_
      simp only [method_specs_simp,seval,encGr,hI,Za]
      refine ⟨by omega,by omega,?_⟩
      rw [Za] at q2
      rw [q1,q2]
      refine Again.mk (k + 1) [0,2] h (by omega) ?_
      simp only [mvcgen_simp,method_specs_simp,seval,encGr,w1]
     ·have hk2 : k = g.parked.length:=by simp only [decide_eq_false_iff_not,Zh,Ze] at h; omega
      subst hk2
      rw [ZQ,← Za,← grN_parts] at *
      have hgl:=grN_len hr
      have hgl2 : (mdN g).length + (evsN g.parked).length = (grN g).length:=by rw [grN_parts,Za]
      have hb : decide (IntKind.i64.wrap (((mdN g).length : Int) + (evsN g.parked).length + 4) > 8000) = false:=by
       rw [wrap_id (by omega) (by omega)]; simp; omega
      rw [hb]
      simp only [method_specs_simp,seval,encGr]
      refine bytY.mk (grN g) rfl ?_
      simp only [method_specs_simp,seval,encGr]
      refine clY.con (c_sSeal (strOf (grN g))) (by simp only [method_specs_simp,encGr]) ?_
      simp only [method_specs_simp,seval,encGr]
      exact sealB_gr hr
theorem c_FnExactGraphBytes (g : Gr) (hg : GrOK g) : Con P 5 [.agg (encGr g)] (.bool true):=by
 have hs:=c_sGraphBytes (P:=P) g hg
 have hi:=c_GraphBytes (P:=P) g hg
 obtain ⟨x,hx⟩ : ∃ x,x = grBy g:=⟨_,rfl⟩
 rw [← hx] at hs hi
 have e6 : (x.toList == x.toList) = true:=by simp
 refine Con.of (n:=27) (rs:=[.tmp 2]) (Is.fn Try.func5) rfl (Is.call Try.call5) Try.results5 Try.ntmps5 trivial ?_
 simp only [method_specs_simp,seval]
 refine clY.con (c_szGraph g 1048576 (by decide) (by decide) hg) (by simp only [method_specs_simp]) ?_
 simp only [method_specs_simp,seval]
 refine gB_split (fun _=>trivial) (fun w1=>?_)
 refine clY.con (c_toGraph g hg) (by simp only [method_specs_simp]) ?_
 simp only [method_specs_simp,seval]
 refine clY.con (hs) (by simp only [method_specs_simp]) ?_
 simp only [method_specs_simp,seval]
 refine clY.newD 0 (n_toGraph g hg) (dcv_zero _ _) (by simp only [method_specs_simp]) (grV_flat 0 g) (obG_flat g) ?_
 obtain ⟨G,hG⟩ : ∃ G,G = obGb 1 g:=⟨_,rfl⟩
 obtain ⟨N,hN⟩ : ∃ N,N = g.events.length + 1 + (g.parked.length + 1):=⟨_,rfl⟩
 have hp : Past G N:=Past.mk' (by rw [hG,hN,obGb_len])
 have hA1 : ∀ L : List Ob,(G ++ L)[0]? = some (.arr true 9 (rowsEv 2 g.events)):=fun L=>by rw [hG]; rfl
 have hA2 : ∀ (a : Ob) (L : List Ob),(a :: (G ++ L))[1 + (g.events.length + 1)]? = some (.arr true 9 (rowsEv (1 + (g.events.length + 1) + 1) g.parked)):=fun a L=>by
  rw [hG]; exact obGb_one g a L
 simp only [method_specs_simp,seval,hp.len,hp.g0,hp.g,hp.b0,hp.b,hp.v0,hp.v,hp.a0,hp.a,hp.w0,hp.w,hp.s0,hp.s,Zc,Zy,Zz,obG_ren,grV,← hG,hA1,hA2]
 have hL : ∀ (a : Ob) (L : List Ob),LiesG (a :: (G ++ L)) 1 g:=fun a L=>LiesG.mk (A:=[a]) rfl (by rw [hG]; rfl)
 refine clY.conD 3 hi ?_ ⟨encGr_ref1 _ g,trivial⟩ trivial ?_
 ·show [dcv 3 _ (.agg (grV 1 g))] = _
  rw [(hL _ _).dcv]
 simp only [method_specs_simp,seval,hp.len,hp.g0,hp.g,hp.b0,hp.b,hp.v0,hp.v,hp.a0,hp.a,hp.w0,hp.w,hp.s0,hp.s,Zc,Zy,Zz,e6]
 refine ⟨by kernel_rfl,?_⟩
 refine clY.con (c_toGraph g hg) (by simp only [method_specs_simp,hp.len,hp.g0,hp.g,hp.b0,hp.b,hp.v0,hp.v,hp.a0,hp.a,hp.w0,hp.w,hp.s0,hp.s,Zc,Zy,Zz]) ?_
 simp only [method_specs_simp,seval,hp.len,hp.g0,hp.g,hp.b0,hp.b,hp.v0,hp.v,hp.a0,hp.a,hp.w0,hp.w,hp.s0,hp.s,Zc,Zy,Zz]
 refine clY.conD 3 (c_eqGraph g hg) ?_ ⟨encGr_ref1 _ g,encGr_ref1 _ g,trivial⟩ trivial ?_
 ·show [dcv 3 _ (.agg (grV 1 g)),dcv 3 _ (.agg (encGr g))] = _
  rw [(hL _ _).dcv,dcv_encG]
 simp only [method_specs_simp,seval,hp.len,hp.g0,hp.g,hp.b0,hp.b,hp.v0,hp.v,hp.a0,hp.a,hp.w0,hp.w,hp.s0,hp.s,Zc,Zy,Zz]
end
end Go.Proofs.Ytnlobbbbgcdiiaa
end
section
namespace Go.Proofs.Ytnlobbbbgcdiiaa
set_option maxRecDepth 100000
theorem and_mk {a b : Bool} (ha : a = true) (hb : b = true) : (a && b) = true:=by rw [ha,hb]; rfl
theorem p_own : ownKnob Try.prog.godebug = none:=by kernel_rfl
theorem p_laid : laidOutB Try.prog = true:=by kernel_rfl
theorem p_maps : mapsRowed Try.prog = true:=by kernel_rfl
theorem p_stops : (Try.prog.stops == []) = true:=by kernel_rfl
theorem p_knobs : (Try.prog.stopKnobs == []) = true:=by kernel_rfl
theorem p_keys : Try.prog.plainKeys = true:=by kernel_rfl
theorem p_heard : Try.prog.stopsHeard = true:=by kernel_rfl
theorem p_enter : Try.prog.mayEnter = true:=by kernel_rfl
end Go.Proofs.Ytnlobbbbgcdiiaa
end
