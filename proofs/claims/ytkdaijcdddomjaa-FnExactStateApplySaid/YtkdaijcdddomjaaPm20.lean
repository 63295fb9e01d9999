/- The abstract machine: fewer objects, less known; loops; whole functions. -/
import Derived.Test.YtkdaijcdddomjaaPm19
set_option linter.unusedVariables false
set_option linter.unusedSimpArgs false
namespace Go.Pm
open Go.RowKit

section
variable {w : World} {Zo : Nat → Prop} {m : List Ob} {β : List Lc}
/-- The objects ks alone, numbered anew. -/
theorem Mem.select (M : Mem w Zo m β) (ks : List Nat) (hn : ks.Nodup) (hlt : ∀ q ∈ ks, q < m.length) (hp : ∀ q ∈ ks, (m.getD q .hole).refs (· ∈ ks)) :
    ∃ β', Mem w Zo (ks.map fun q => (m.getD q .hole).ren (idx ks)) β' ∧ Tr (cx w Zo m β) (cx w Zo (ks.map fun q => (m.getD q .hole).ren (idx ks)) β') (idx ks) (fun q => q ∈ ks) ∧
      (∀ b, liveAt (ks.map fun q => (m.getD q .hole).ren (idx ks)) β' b → liveAt m β b) := by
  have g1 : ∀ (j : Nat) (ob : Ob), (ks.map fun q => (m.getD q .hole).ren (idx ks))[j]? = some ob → ∃ q ob', ks[j]? = some q ∧ m[q]? = some ob' ∧ ob = ob'.ren (idx ks) := by
    intro j ob h
    rw [List.getElem?_map] at h
    cases hk : ks[j]? with
    | none => rw [hk] at h; cases h
    | some q =>
      rw [hk] at h
      have hq := hlt q (List.mem_of_getElem? hk)
      simp only [Option.map_some, Option.some.injEq] at h
      rw [List.getD_eq_getElem?_getD, List.getElem?_eq_getElem hq] at h
      exact ⟨q, m[q], rfl, List.getElem?_eq_getElem hq, by simpa using h.symm⟩
  have g2 : ∀ (j : Nat) (l : Lc) (q : Nat), ks[j]? = some q → (ks.map fun q => β.getD q ⟨0, 0⟩)[j]? = some l → β[q]? = some l := by
    intro j l q hk h
    have hq := hlt q (List.mem_of_getElem? hk)
    rw [List.getElem?_map, hk] at h
    simp only [Option.map_some, Option.some.injEq] at h
    rw [List.getD_eq_getElem?_getD, List.getElem?_eq_getElem (by rw [M.len]; exact hq)] at h
    rw [List.getElem?_eq_getElem (by rw [M.len]; exact hq)]
    simpa using h
  have hlive : ∀ b, liveAt (ks.map fun q => (m.getD q .hole).ren (idx ks)) (ks.map fun q => β.getD q ⟨0, 0⟩) b → liveAt m β b := by
    rintro b ⟨j, ob, l, h1, h2, h3⟩
    obtain ⟨q, ob', hk, hm, rfl⟩ := g1 j ob h1
    rw [Ob.ren_blk] at h3
    exact ⟨q, ob', l, hm, g2 j l q hk h2, h3⟩
  have hfz : ∀ b, (cx w Zo m β).fz b → (cx w Zo (ks.map fun q => (m.getD q .hole).ren (idx ks)) (ks.map fun q => β.getD q ⟨0, 0⟩)).fz b :=
    fun b h => ⟨h.1, fun hz => h.2 (hz.imp id (hlive b))⟩
  have htr : Tr (cx w Zo m β) (cx w Zo (ks.map fun q => (m.getD q .hole).ren (idx ks)) (ks.map fun q => β.getD q ⟨0, 0⟩)) (idx ks) (fun q => q ∈ ks) := by
    refine ⟨fun b h => ⟨hfz b h, rfl⟩, fun q hq => ?_⟩
    have hk := idx_get hq
    have hql := hlt q hq
    have e1 : (ks.map fun q => (m.getD q .hole).ren (idx ks))[idx ks q]? = m[q]?.map (Ob.ren (idx ks)) := by
      rw [List.getElem?_map, hk, List.getElem?_eq_getElem hql]
      simp [List.getD_eq_getElem?_getD, hql]
    have e2 : (ks.map fun q => β.getD q ⟨0, 0⟩)[idx ks q]? = β[q]? := by
      have hql' : q < β.length := by rw [M.len]; exact hql
      rw [List.getElem?_map, hk, List.getElem?_eq_getElem hql']
      simp [List.getD_eq_getElem?_getD, hql']
    show obLe m[q]? β[q]? (ks.map fun q => (m.getD q .hole).ren (idx ks))[idx ks q]? (ks.map fun q => β.getD q ⟨0, 0⟩)[idx ks q]?
    rw [e1, e2]
    exact obLe_ren _ _ _
  refine ⟨ks.map fun q => β.getD q ⟨0, 0⟩, ⟨by simp, ?_, ?_, fun b h => M.out b (hlive b h), M.zlt⟩, htr, hlive⟩
  · intro j ob l h1 h2
    obtain ⟨q, ob', hk, hm, rfl⟩ := g1 j ob h1
    have hβ := g2 j l q hk h2
    have hok := M.ok q ob' l hm hβ
    have hpu := hp q (List.mem_of_getElem? hk)
    rw [List.getD_eq_getElem?_getD, hm] at hpu
    cases ob' with
    | hole => trivial
    | dead => trivial
    | box lv cs =>
      obtain ⟨us, e, fr, k1, k2, k3, k4, k5⟩ := hok
      exact ⟨us, e, fr, k1, by rw [rens_length]; exact k2, k3, RC.tr htr l.b rfl cs 0 hpu k4, k5.imp id (hfz _)⟩
    | arr lv sz xs =>
      obtain ⟨k1, k2, k3, k4⟩ := hok
      refine ⟨by rw [renss_length]; exact k1, k2, k3, k4.imp id ?_⟩
      rintro ⟨us, e, fr, q1, q2, q3, q4, q5⟩
      exact ⟨us, e, fr, q1, q2, q3, RR.tr htr sz l.b rfl xs 0 hpu q4, q5.imp id (hfz _)⟩
    | mp lv ks' vs =>
      obtain ⟨es, n, k1, k2, k3, k4⟩ := hok
      exact ⟨es, n, k1, RVs.tr htr ks' _ hpu.1 k2, RVs.tr htr vs _ hpu.2 k3, k4.imp id (hfz _)⟩
  · intro j j' ob ob' l l' b h1 h2 h3 h4 h5 h6
    obtain ⟨q, o1, hk, hm, rfl⟩ := g1 j ob h1
    obtain ⟨q', o2, hk', hm', rfl⟩ := g1 j' ob' h2
    rw [Ob.ren_blk] at h5 h6
    have e := M.sep q q' o1 o2 l l' b hm hm' (g2 j l q hk h3) (g2 j' l' q' hk' h4) h5 h6
    subst e
    exact (List.getElem?_inj (List.getElem?_eq_some_iff.1 hk).1 hn).1 (hk.trans hk'.symm)
end

/-- Each value is what it was, numbered anew, or forgotten. -/
def wkT (ks : List Nat) : List V → List V → Prop
  | [], ys => ys = []
  | x :: xs, y :: ys => (y = .junk ∨ (Ref (· ∈ ks) x ∧ y = x.ren (idx ks))) ∧ wkT ks xs ys
  | _ :: _, [] => False
theorem wkT_sound {c c' : Cx} {ks : List Nat} (h : Tr c c' (idx ks) (fun q => q ∈ ks)) : ∀ {xs ys : List V} {us : List Value}, wkT ks xs ys → RVs c xs us → RVs c' ys us
  | [], ys, us, k, r => by rw [show ys = [] from k]; exact r
  | x :: xs, y :: ys, us, ⟨k1, k2⟩, ⟨u, us', e, r1, r2⟩ => by
    refine ⟨u, us', e, ?_, wkT_sound h k2 r2⟩
    rcases k1 with rfl | ⟨k1, rfl⟩
    · trivial
    · exact RV.tr h x u k1 r1
  | x :: xs, [], us, k, r => k.elim
/-- st' says less than st. -/
def Wk (ks : List Nat) (st st' : St) : Prop :=
  ks.Nodup ∧ (∀ q ∈ ks, q < st.m.length) ∧ (∀ q ∈ ks, (st.m.getD q .hole).refs (· ∈ ks)) ∧ st'.m = (ks.map fun q => (st.m.getD q .hole).ren (idx ks)) ∧ wkT ks st.t st'.t ∧ wkT ks st.g st'.g
theorem Wk.rel {ks : List Nat} {st st' : St} {w0 : World} {E Zo : Nat → Prop} {gh : List Value} {a : Act} {w : World} (h : Wk ks st st') (r : Rel w0 E Zo gh st a w) : Rel w0 E Zo gh st' a w := by
  obtain ⟨h1, h2, h3, h4, h5, h6⟩ := h
  obtain ⟨β, M, r1, r2, r3, r4, r5⟩ := r
  obtain ⟨β', M', htr, hl⟩ := M.select ks h1 h2 h3
  obtain ⟨t', m', g'⟩ := st'
  simp only at h4 h5 h6
  subst h4
  exact ⟨β', M', fun b hb => r1 b (hl b hb), r2, r3, wkT_sound htr h5 r4, wkT_sound htr h6 r5⟩
section
variable {P : Program} {st : St} {Q : Exit → St → Prop}
theorem SW.wk {c : Code} {st' : St} (ks : List Nat) (h : Wk ks st st') (k : SW P c st' Q) : SW P c st Q := fun w0 E Zo gh a w r => k w0 E Zo gh a w (h.rel r)
/-- One more round. -/
def Again {A : Type} (F : A → St) (μ : A → Nat) (I : A → Prop) (a : A) (st' : St) : Prop := ∃ a' ks, I a' ∧ μ a' < μ a ∧ Wk ks st' (F a')
@[congr] theorem Again_congr {A : Type} {F : A → St} {μ : A → Nat} {I : A → Prop} {a : A} {st st' : St} (h : st = st') : Again F μ I a st = Again F μ I a st' := by rw [h]
theorem Again.mk {A : Type} {F : A → St} {μ : A → Nat} {I : A → Prop} {a : A} {st' : St} (a' : A) (ks : List Nat) (h1 : I a') (h2 : μ a' < μ a) (h3 : Wk ks st' (F a')) : Again F μ I a st' := ⟨a', ks, h1, h2, h3⟩
/-- A loop: its state is F a, for some a; each round lowers μ. -/
theorem SW.while {c : Code} {A : Type} (F : A → St) (μ : A → Nat) (I : A → Prop) (a0 : A) (ks : List Nat) (hI : I a0) (h0 : Wk ks st (F a0))
    (round : ∀ a, I a → SW P c (F a) (andThen (Again F μ I a) Q)) : SW P (.loop c) st Q := by
  refine SW.wk ks h0 (SW.loop (fun n st => ∃ a, μ a = n ∧ I a ∧ ∃ st1, st = st1 ∧ st1 = F a) (μ a0) ⟨a0, rfl, hI, _, rfl, rfl⟩ ?_)
  rintro n _ ⟨a, rfl, hIa, _, rfl, rfl⟩
  intro w0 E Zo gh ac w r
  refine wp_mono (round a hIa w0 E Zo gh ac w r) ?_
  rintro e a' w' ⟨st', q, r'⟩
  cases e with
  | normal =>
    obtain ⟨a2, ks2, h1, h2, h3⟩ := q
    exact ⟨F a2, ⟨μ a2, h2, a2, rfl, h1, _, rfl, rfl⟩, h3.rel r'⟩
  | exit id => exact ⟨st', q, r'⟩
  | goto l => exact ⟨st', q, r'⟩
  | ret => exact ⟨st', q, r'⟩
  | panic ch => exact ⟨st', q, r'⟩
  | outgrown => exact ⟨st', q, r'⟩

/-! ### a function's code, computed -/
/-- The first operation that writes: before it, any order does. -/
def quietN : List Oper → Nat
  | [] => 0
  | o :: os => match o.op with
    | .store .. => 0
    | .call c => match c.callee with
      | .builtin .append => 0
      | .builtin .clear => 0
      | .builtin .copy => 0
      | _ => quietN os + 1
    | _ => quietN os + 1
def DR (P : Program) (ops : Array Oper) (st : St) (K : St → Prop) : Prop := P.follows .mixedOrders = true ∧ anyB ops (quietN ops.toList) = true ∧ RQ P (dsts ops) (quietN ops.toList) ops.toList st K
def isBl : V → Prop
  | .bool _ => True
  | _ => False
theorem isBl_b {b : Bool} : isBl (.bool b) = True := nr rfl
def CW (P : Program) : Code → St → (Exit → St → Prop) → Prop
  | .skip, st, Q => Q .normal st
  | .ret, st, Q => Q .ret st
  | .exit id, st, Q => Q (.exit id) st
  | .seq x y, st, Q => CW P x st (andThen (fun st' => CW P y st' Q) Q)
  | .block id c, st, Q => CW P c st (inBlk id Q)
  | .cond c x y, st, Q => isBl (St.ev st.t c) ∧ gB (St.ev st.t c) true (CW P x st Q) (CW P y st Q)
  | .region id ops dr, st, Q => if dr then DR P ops st (Q .normal) else RS P (dsts ops) ops.toList st (Q .normal)
  | c, st, Q => SW P c st Q
theorem andThen_mono {K K' : St → Prop} {Q : Exit → St → Prop} (h : ∀ st, K st → K' st) : ∀ e st, andThen K Q e st → andThen K' Q e st := by
  intro e st k
  cases e <;> first | exact h _ k | exact k
theorem CW.sound : ∀ {c : Code} {st : St} {Q : Exit → St → Prop}, CW P c st Q → SW P c st Q
  | .skip, st, Q, h => SW.skip h
  | .ret, st, Q, h => SW.ret h
  | .exit id, st, Q, h => SW.exit h
  | .seq x y, st, Q, h => SW.seq ((CW.sound (c := x) h).mono (andThen_mono fun st' k => CW.sound (c := y) k))
  | .block id c, st, Q, h => SW.block (CW.sound (c := c) h)
  | .cond c x y, st, Q, h => by
    have h : isBl (St.ev st.t c) ∧ gB (St.ev st.t c) true (CW P x st Q) (CW P y st Q) := h
    obtain ⟨hbl, h⟩ := h
    unfold gB at h
    split at h
    · rename_i b hb
      refine SW.cond hb (fun e => ?_) (fun e => ?_)
      · subst e
        exact CW.sound (c := x) h
      · subst e
        exact CW.sound (c := y) (by simpa using h)
    · rename_i e
      rw [e] at hbl
      exact hbl.elim
    · exact h.elim
  | .region id ops dr, st, Q, h => by
    unfold CW at h
    cases dr with
    | false => exact SW.region1 (by simpa using h)
    | true =>
      have h : DR P ops st (Q .normal) := by simpa using h
      exact SW.drawn _ h.1 h.2.1 h.2.2
  | .loop c, st, Q, h => h
  | .goto .., st, Q, h => h
  | .rangeFunc .., st, Q, h => h
  | .scope .., st, Q, h => h
  | .label .., st, Q, h => h
  | .refuse .., st, Q, h => h
theorem Contract.ofCW {f : FuncId} {fn : Func} {c : Code} {args : List V} {r : V} {mr : List Ob} (hf : P.funcs[f]? = some fn) (hb : fn.body = some c)
    (h : CW P c ⟨args ++ List.replicate (fn.ntmps - args.length) .junk, [], []⟩ (fun e st => e = .ret ∧ ∃ ks, retVC P fn ks st r mr)) : Contract P f args r mr :=
  Contract.of hf hb (CW.sound h)
end
end Go.Pm
