/- The abstract machine: states, triples, control. -/
import Derived.Test.YtkdaijcdddomjaaPm2
import Derived.Deep.LoopGhost
import Derived.Orders
set_option linter.unusedVariables false
namespace Go.Pm
open Go.RowKit

/-- Temporaries, objects, and what others hold meanwhile (a caller's temporaries). -/
structure St where
  t : List V
  m : List Ob
  g : List V
  deriving Inhabited

def ofVal1 : Value → V
  | .int k n => .int k n
  | .bool b => .bool b
  | .string s => .str s
  | .slice none 0 0 => .nil
  | _ => .junk
def ofVal : Value → V
  | .agg cs => .agg (cs.toList.map ofVal1)
  | v => ofVal1 v
theorem RV_ofVal1 (c : Cx) (v : Value) : RV c (ofVal1 v) v := by
  unfold ofVal1
  split <;> first | rfl | trivial
theorem RVs_ofVal1 (c : Cx) : ∀ us : List Value, RVs c (us.map ofVal1) us
  | [] => rfl
  | u :: us => ⟨u, us, rfl, RV_ofVal1 c u, RVs_ofVal1 c us⟩
theorem RV_ofVal (c : Cx) (v : Value) : RV c (ofVal v) v := by
  unfold ofVal
  split
  · exact ⟨_, rfl, RVs_ofVal1 c _⟩
  · exact RV_ofVal1 c v

def St.ev (t : List V) : Operand → V
  | .tmp i => t.getD i .junk
  | .const v => ofVal v
  | .global _ => .junk
  | .func f => .fn f [] []

section
variable {c : Cx}
theorem RVs.length : ∀ {xs : List V} {us : List Value}, RVs c xs us → us.length = xs.length
  | [], us, h => by rw [show us = [] from h]; rfl
  | x :: xs, us, ⟨u, us', e, _, r⟩ => by rw [e]; simp [RVs.length r]
theorem RVs.get : ∀ {xs : List V} {us : List Value} (i : Nat) {x : V}, RVs c xs us → xs[i]? = some x → ∃ u, us[i]? = some u ∧ RV c x u
  | x :: xs, us, 0, y, ⟨u, us', e, r, _⟩, h => by
    simp at h; subst h
    exact ⟨u, by rw [e]; rfl, r⟩
  | x :: xs, us, i + 1, y, ⟨u, us', e, _, r⟩, h => by
    simp only [List.getElem?_cons_succ] at h
    obtain ⟨u', h1, h2⟩ := RVs.get i r h
    exact ⟨u', by rw [e]; simpa using h1, h2⟩
theorem RVs.getD {xs : List V} {us : List Value} (i : Nat) (d : Value) (h : RVs c xs us) : RV c (xs.getD i .junk) (us.getD i d) := by
  rcases Nat.lt_or_ge i xs.length with hi | hi
  · obtain ⟨u, h1, h2⟩ := h.get i (List.getElem?_eq_getElem hi)
    rw [List.getD_eq_getElem?_getD, List.getD_eq_getElem?_getD, h1, List.getElem?_eq_getElem hi]
    exact h2
  · rw [List.getD_eq_getElem?_getD, List.getElem?_eq_none hi]
    trivial
theorem RVs.set : ∀ {xs : List V} {us : List Value} (i : Nat) {x : V} {u : Value}, RVs c xs us → RV c x u → RVs c (xs.set i x) (us.set i u)
  | [], us, i, x, u, h, _ => by rw [show us = [] from h]; simp [RVs]
  | y :: ys, us, 0, x, u, ⟨u', us', e, _, r⟩, hx => ⟨u, us', by rw [e]; rfl, hx, r⟩
  | y :: ys, us, i + 1, x, u, ⟨u', us', e, h1, r⟩, hx => ⟨u', us'.set i u, by rw [e]; rfl, h1, RVs.set i r hx⟩
theorem RVs.append : ∀ {xs ys : List V} {us vs : List Value}, RVs c xs us → RVs c ys vs → RVs c (xs ++ ys) (us ++ vs)
  | [], ys, us, vs, h, k => by rw [show us = [] from h]; exact k
  | x :: xs, ys, us, vs, ⟨u, us', e, h1, r⟩, k => ⟨u, us' ++ vs, by rw [e]; rfl, h1, RVs.append r k⟩
theorem RVs.junk (c : Cx) : ∀ us : List Value, RVs c (List.replicate us.length .junk) us
  | [] => rfl
  | u :: us => ⟨u, us, rfl, trivial, RVs.junk c us⟩
theorem RVs.drop : ∀ {xs : List V} {us : List Value} (i : Nat), RVs c xs us → RVs c (xs.drop i) (us.drop i)
  | xs, us, 0, h => h
  | [], us, i + 1, h => by rw [show us = [] from h]; simp [RVs]
  | x :: xs, us, i + 1, ⟨u, us', e, _, r⟩ => by rw [e]; exact RVs.drop i r
theorem RVs.take : ∀ {xs : List V} {us : List Value} (i : Nat), RVs c xs us → RVs c (xs.take i) (us.take i)
  | xs, us, 0, h => by simp [RVs]
  | [], us, i + 1, h => by rw [show us = [] from h]; simp [RVs]
  | x :: xs, us, i + 1, ⟨u, us', e, h1, r⟩ => by rw [e]; exact ⟨u, us'.take i, rfl, h1, RVs.take i r⟩
end
theorem ev_RV {c : Cx} {t : List V} {a : Act} (h : RVs c t a.tmps.toList) (x : Operand) : RV c (St.ev t x) (a.eval x) := by
  cases x with
  | tmp i =>
    have h1 := h.getD i undef
    have h2 : a.tmps.toList.getD i undef = a.tmps.getD i undef := by simp
    rw [h2] at h1
    exact h1
  | const v => exact RV_ofVal c v
  | global g => trivial
  | func f => exact ⟨#[], #[], rfl, rfl, rfl⟩

def putT (t : List V) (dst : Option Tmp) (x : V) : List V := match dst with
  | some d => t.set d x
  | none => t
theorem RVs.put {c : Cx} {t : List V} {a : Act} {x : V} {u : Value} (h : RVs c t a.tmps.toList) (hx : RV c x u) (dst : Option Tmp) : RVs c (putT t dst x) (a.put dst u).tmps.toList := by
  cases dst with
  | none => exact h
  | some d =>
    have := h.set d hx
    simpa [putT, Act.put, Array.toList_setIfInBounds] using this

/-- The machine's frame and world are as the abstract state says; w0: the world at the call's begin; E: elder blocks that the call may write; Zo: blocks that others may write. -/
def Rel (w0 : World) (E Zo : Nat → Prop) (gh : List Value) (st : St) (a : Act) (w : World) : Prop :=
  ∃ β, Mem w Zo st.m β ∧ (∀ b, liveAt st.m β b → E b ∨ w0.heap.size ≤ b) ∧ Frame E w0 w ∧ a.defers = [] ∧ RVs (cx w Zo st.m β) st.t a.tmps.toList ∧ RVs (cx w Zo st.m β) st.g gh

/-- The triple. -/
def SW (P : Program) (code : Code) (st : St) (Q : Exit → St → Prop) : Prop :=
  ∀ w0 E Zo gh a w, Rel w0 E Zo gh st a w → code.wp P (fun e a' w' => ∃ st', Q e st' ∧ Rel w0 E Zo gh st' a' w') a w
def andThen (K : St → Prop) (Q : Exit → St → Prop) : Exit → St → Prop
  | .normal, st => K st
  | e, st => Q e st
section
variable {P : Program} {st : St} {Q : Exit → St → Prop}
theorem SW.mono {c : Code} {Q' : Exit → St → Prop} (h : SW P c st Q) (hq : ∀ e st, Q e st → Q' e st) : SW P c st Q' :=
  fun w0 E Zo gh a w r => wp_mono (h w0 E Zo gh a w r) fun e a w ⟨st', q, r'⟩ => ⟨st', hq _ _ q, r'⟩
theorem SW.skip (h : Q .normal st) : SW P .skip st Q := fun w0 E Zo gh a w r => wp_skip ⟨st, h, r⟩
theorem SW.ret (h : Q .ret st) : SW P .ret st Q := fun w0 E Zo gh a w r => wp_ret ⟨st, h, r⟩
theorem SW.exit {id : Nat} (h : Q (.exit id) st) : SW P (.exit id) st Q := fun w0 E Zo gh a w r => wp_exit ⟨st, h, r⟩
theorem SW.seq {x y : Code} (h : SW P x st (andThen (fun st' => SW P y st' Q) Q)) : SW P (.seq x y) st Q := by
  intro w0 E Zo gh a w r
  refine wp_seq (wp_mono (h w0 E Zo gh a w r) ?_)
  rintro e a' w' ⟨st', q, r'⟩
  cases e with
  | normal => exact q w0 E Zo gh a' w' r'
  | exit id => exact ⟨st', q, r'⟩
  | goto l => exact ⟨st', q, r'⟩
  | ret => exact ⟨st', q, r'⟩
  | panic ch => exact ⟨st', q, r'⟩
  | outgrown => exact ⟨st', q, r'⟩
theorem SW.cond {c : Operand} {x y : Code} {b : Bool} (hc : St.ev st.t c = .bool b) (ht : b = true → SW P x st Q) (hf : b = false → SW P y st Q) : SW P (.cond c x y) st Q := by
  intro w0 E Zo gh a w r
  obtain ⟨β, M, h1, h2, h3, h4, h5⟩ := r
  have hv := ev_RV h4 c
  rw [hc] at hv
  exact wp_cond_split hv (fun e => ht e w0 E Zo gh a w ⟨β, M, h1, h2, h3, h4, h5⟩) (fun e => hf e w0 E Zo gh a w ⟨β, M, h1, h2, h3, h4, h5⟩)
def inBlk (id : Nat) (Q : Exit → St → Prop) : Exit → St → Prop
  | .exit id', st => if id' = id then Q .normal st else Q (.exit id') st
  | e, st => Q e st
theorem SW.block {id : Nat} {c : Code} (h : SW P c st (inBlk id Q)) : SW P (.block id c) st Q := by
  intro w0 E Zo gh a w r
  refine wp_block (wp_mono (h w0 E Zo gh a w r) ?_)
  rintro e a' w' ⟨st', q, r'⟩
  cases e with
  | exit id' =>
    unfold Exit.inBlock
    unfold inBlk at q
    by_cases hid : id' = id
    · simp only [hid, if_true] at q ⊢; exact ⟨st', q, r'⟩
    · simp only [hid, if_false] at q ⊢; exact ⟨st', q, r'⟩
  | normal => exact ⟨st', q, r'⟩
  | goto l => exact ⟨st', q, r'⟩
  | ret => exact ⟨st', q, r'⟩
  | panic ch => exact ⟨st', q, r'⟩
  | outgrown => exact ⟨st', q, r'⟩
/-- A loop: a relation that bears a number, which each round lowers. -/
theorem SW.loop {c : Code} (I : Nat → St → Prop) (n : Nat) (h0 : I n st) (round : ∀ n st, I n st → SW P c st (andThen (fun st' => ∃ n', n' < n ∧ I n' st') Q)) : SW P (.loop c) st Q := by
  intro w0 E Zo gh a w r
  refine wp_loop_ghost (fun n a w => ∃ st, I n st ∧ Rel w0 E Zo gh st a w) n ⟨st, h0, r⟩ ?_
  rintro n a w ⟨st, hI, r⟩
  refine wp_mono (round n st hI w0 E Zo gh a w r) ?_
  rintro e a' w' ⟨st', q, r'⟩
  cases e with
  | normal =>
    obtain ⟨n', hlt, hI'⟩ := q
    exact ⟨n', hlt, st', hI', r'⟩
  | exit id => exact ⟨st', q, r'⟩
  | goto l => exact ⟨st', q, r'⟩
  | ret => exact ⟨st', q, r'⟩
  | panic ch => exact ⟨st', q, r'⟩
  | outgrown => exact ⟨st', q, r'⟩
end

/-! ### Operations, in the order of the text -/
/-- One operation. -/
def OW (P : Program) (o : Oper) (st : St) (K : St → Prop) : Prop :=
  ∀ w0 E Zo gh a w (Q : Exit → Act → World → Prop), Rel w0 E Zo gh st a w → o.wp P a w (fun a' w' => ∃ st', K st' ∧ Rel w0 E Zo gh st' a' w') Q
/-- Whether an operation is wanted: A where it is, B where not. -/
def gd (ds : List (Option Tmp)) (o : Oper) (t : List V) (A B : Prop) : Prop := match o.guard with
  | none => A
  | some (j, want) => match ds.getD j none with
    | some d => match t.getD d .junk with
      | .bool b => (b = want → A) ∧ (b = (!want) → B)
      | .tup [] => B
      | _ => False
    | none => False
theorem RV_udf {c : Cx} : RV c (.tup []) undef := ⟨#[], rfl, rfl⟩
theorem udf_cases {c : Cx} {a : Act} {d : Nat} (h : RV c (.tup []) (a.tmps.getD d undef)) : a.tmps[d]? = none ∨ a.tmps[d]? = some (.tuple #[]) := by
  obtain ⟨us, e, h⟩ := h
  have h : us.toList = [] := h
  have h : us = #[] := by cases us; simp_all
  subst h
  rw [Array.getD_eq_getD_getElem?] at e
  cases h4 : a.tmps[d]? with
  | none => exact .inl rfl
  | some v =>
    rw [h4] at e
    exact .inr (by simpa using e)
def dsts (ops : Array Oper) : List (Option Tmp) := ops.toList.map (·.dst)
theorem gd_wanted {ops : Array Oper} {c : Cx} {o : Oper} {t : List V} {a : Act} (h : RVs c t a.tmps.toList) {A B : Prop} (k : gd (dsts ops) o t A B) :
    (Region.wanted o (yielded ops a.tmps) = true ∧ A) ∨ (Region.wanted o (yielded ops a.tmps) = false ∧ B) := by
  unfold gd at k
  unfold Region.wanted
  cases hg : o.guard with
  | none => rw [hg] at k; exact .inl ⟨rfl, k⟩
  | some g =>
    obtain ⟨j, want⟩ := g
    rw [hg] at k
    simp only at k ⊢
    have hd : (dsts ops).getD j none = (ops[j]?).bind (·.dst) := by
      unfold dsts
      rw [List.getD_eq_getElem?_getD, List.getElem?_map, Array.getElem?_toList]
      cases ops[j]? <;> rfl
    rw [hd] at k
    unfold yielded
    cases hj : (ops[j]?).bind (·.dst) with
    | none => rw [hj] at k; exact k.elim
    | some d =>
      rw [hj] at k
      simp only at k
      have hv := h.getD d undef
      have h2 : a.tmps.toList.getD d undef = a.tmps.getD d undef := by simp
      rw [h2] at hv
      cases hx : t.getD d .junk <;> rw [hx] at k hv <;> try simp only at k
      case bool b =>
        have hv' : a.tmps.getD d undef = .bool b := hv
        have h3 : a.tmps[d]? = some (.bool b) := by
          rw [Array.getD_eq_getD_getElem?] at hv'
          cases h4 : a.tmps[d]? with
          | none => rw [h4] at hv'; cases hv'
          | some v => rw [h4] at hv'; simpa using hv'
        rw [Option.bind_some, h3]
        cases b <;> cases want <;> simp_all
      case tup xs =>
        cases xs with
        | cons x xs => exact k.elim
        | nil =>
          refine .inr ⟨?_, k⟩
          rw [Option.bind_some]
          rcases udf_cases hv with e | e <;> rw [e] <;> rfl
/-- The operations of a region that doesn't draw. -/
def RO (P : Program) (ds : List (Option Tmp)) : List Oper → St → (St → Prop) → Prop
  | [], st, K => K st
  | o :: os, st, K => gd ds o st.t (OW P o st (fun st' => RO P ds os st' K)) (RO P ds os ⟨putT st.t o.dst (.tup []), st.m, st.g⟩ K)
theorem RO_sound {P : Program} {ops : Array Oper} {Q : Exit → Act → World → Prop} {K : St → Prop} {w0 : World} {E Zo : Nat → Prop} {gh : List Value} :
    ∀ (os : List Oper) (n : Nat) (st : St) (a : Act) (w : World), n + os.length = ops.size → ops.toList.drop n = os → (∀ st a w, K st → Rel w0 E Zo gh st a w → Q .normal a w) →
      RO P (dsts ops) os st K → Rel w0 E Zo gh st a w → wpOps P ops Q ((List.range os.length).map (n + ·)) a w
  | [], n, st, a, w, _, _, hK, h, r => hK _ _ _ h r
  | o :: os, n, st, a, w, hn, hd, hK, h, r => by
    have hrange : (List.range (o :: os).length).map (n + ·) = n :: (List.range os.length).map ((n + 1) + ·) := by
      simp only [List.length_cons, List.range_succ_eq_map, List.map_cons, List.map_map, Nat.add_zero]
      congr 1
      apply List.map_congr_left
      intro x _
      simp only [Function.comp]
      omega
    have hoi : ops[n]? = some o := by
      have : ops.toList[n]? = some o := by
        have h1 : (ops.toList.drop n)[0]? = some o := by rw [hd]; rfl
        simpa using h1
      simpa using this
    have hd' : ops.toList.drop (n + 1) = os := by
      have : (ops.toList.drop n).drop 1 = os := by rw [hd]; rfl
      simpa [List.drop_drop, Nat.add_comm] using this
    have hn' : n + 1 + os.length = ops.size := by simp at hn; omega
    rw [hrange]
    simp only [wpOps, hoi]
    have r' := r
    obtain ⟨β, M, h1, h2, h3, h4, h5⟩ := r
    rcases gd_wanted h4 h with ⟨hw, hA⟩ | ⟨hw, hB⟩
    · rw [if_pos hw]
      refine .inl (Oper.wp_mono ?_ (hA w0 E Zo gh a w Q r'))
      rintro a' w' ⟨st', hk, hr⟩
      exact RO_sound os (n + 1) st' a' w' hn' hd' hK hk hr
    · rw [if_neg (by rw [hw]; decide)]
      refine RO_sound os (n + 1) _ _ w hn' hd' hK hB ⟨β, M, h1, h2, by cases o.dst <;> exact h3, h4.put (x := .tup []) RV_udf o.dst, h5⟩
theorem SW.region {P : Program} {st : St} {Q : Exit → St → Prop} {id : Nat} {ops : Array Oper} (h : RO P (dsts ops) ops.toList st (Q .normal)) : SW P (.region id ops false) st Q := by
  intro w0 E Zo gh a w r
  have h1 := RO_sound (Q := fun e a' w' => ∃ st', Q e st' ∧ Rel w0 E Zo gh st' a' w') (ops := ops) ops.toList 0 st a w (by simp) rfl (fun st a w hk hr => ⟨st, hk, hr⟩) h r
  refine wp_region ?_
  simpa using h1
end Go.Pm
