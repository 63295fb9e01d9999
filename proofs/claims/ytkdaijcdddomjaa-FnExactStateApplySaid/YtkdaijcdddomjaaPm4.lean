/- The abstract machine: operations that only read, and make. -/
import Derived.Test.YtkdaijcdddomjaaPm3
import Derived.Laws.Cells
set_option linter.unusedVariables false
namespace Go.Pm
open Go.RowKit

/-- The state of an order's beginning lies in the state now, but for what is still to be made. -/
def Agree (mT m : List Ob) : Prop := ∀ (p : Nat) (ob : Ob), mT[p]? = some ob → m[p]? = some ob ∨ m[p]? = some .hole
theorem Agree.refl (m : List Ob) : Agree m m := fun _ _ h => .inl h
def fills : List Ob → Nat → List Ob → List Ob
  | m, _, [] => m
  | m, p, x :: xs => fills (m.set p x) (p + 1) xs
theorem fills_length : ∀ (xs m : List Ob) (p : Nat), (fills m p xs).length = m.length
  | [], m, p => rfl
  | x :: xs, m, p => by simp [fills, fills_length xs]
theorem fills_holes : ∀ (xs m : List Ob), fills (m ++ List.replicate xs.length .hole) m.length xs = m ++ xs
  | [], m => by simp [fills]
  | x :: xs, m => by
    simp only [fills, List.length_cons, List.replicate_succ]
    have h1 : (m ++ Ob.hole :: List.replicate xs.length .hole).set m.length x = (m ++ [x]) ++ List.replicate xs.length .hole := by
      rw [List.set_append_right _ _ (Nat.le_refl _)]
      simp
    rw [h1]
    have := fills_holes xs (m ++ [x])
    simp only [List.length_append, List.length_singleton] at this
    rw [this]
    simp

/-- A quiet operation: it comes to r, makes the objects 'new' (numbers from base on), and leaves all else alone. -/
def QS (P : Program) (o : Oper) (ev : Operand → V) (mT : List Ob) (base : Nat) (r : V) (new : List Ob) : Prop :=
  ∀ (w : World) (Zo : Nat → Prop) (m : List Ob) (β : List Lc) (a : Act) (Q : Exit → Act → World → Prop), Mem w Zo m β → Agree mT m → (∀ x ∈ o.op.operands, RV (cx w Zo m β) (ev x) (a.eval x)) →
    (∀ j, j < new.length → m[base + j]? = some .hole) →
    o.wp P a w (fun a' w' => ∃ v β', a' = a.put o.dst v ∧ Grow w w' ∧ Mem w' Zo (fills m base new) β' ∧ (cx w Zo m β).le (cx w' Zo (fills m base new) β') ∧ RV (cx w' Zo (fills m base new) β') r v ∧
      (∀ b, liveAt (fills m base new) β' b → liveAt m β b ∨ w.heap.size ≤ b)) Q

theorem Cx.le.trans {a b c : Cx} (h : a.le b) (k : b.le c) : a.le c := by
  refine ⟨fun i hi => ⟨(k.fz i (h.fz i hi).1).1, (k.fz i (h.fz i hi).1).2.trans (h.fz i hi).2⟩, fun o ho => ?_⟩
  have h1 := h.ob o trivial
  have h2 := k.ob o trivial
  generalize a.m[o]? = am at *
  generalize a.β[o]? = ab at *
  generalize b.m[o]? = bm at *
  generalize b.β[o]? = bb at *
  generalize c.m[o]? = cm at *
  generalize c.β[o]? = cb at *
  cases am with
  | none => trivial
  | some x =>
    cases x with
    | hole => cases ab <;> trivial
    | dead =>
      have h1 : bm = some .dead := h1
      subst h1
      exact h2
    | box lv cs =>
      cases ab with
      | none => trivial
      | some l =>
        rcases h1 with rfl | ⟨lv, xs', l', rfl, rfl, e1⟩
        · exact .inl h2
        · rcases h2 with rfl | ⟨lv2, xs2, l2, rfl, rfl, e2⟩
          · exact .inl rfl
          · exact .inr ⟨_, _, _, rfl, rfl, e2.trans e1⟩
    | arr lv sz xs =>
      cases ab with
      | none => trivial
      | some l =>
        rcases h1 with rfl | ⟨lv, xs', rfl, rfl, h1⟩
        · exact .inl h2
        · rcases h2 with rfl | ⟨lv2, xs2, rfl, rfl, h2⟩
          · exact .inl rfl
          · exact .inr ⟨_, _, rfl, rfl, by omega⟩
    | mp lv ks vs =>
      cases ab with
      | none => trivial
      | some l =>
        rcases h1 with rfl | ⟨lv, ks, vs, l', rfl, rfl, e1⟩
        · exact .inl h2
        · rcases h2 with rfl | ⟨lv2, ks2, vs2, l2, rfl, rfl, e2⟩
          · exact .inl rfl
          · exact .inr ⟨_, _, _, _, rfl, rfl, e2.trans e1⟩

section
variable {P : Program} {o : Oper} {ev : Operand → V} {mT : List Ob} {base : Nat} {r : V} {new : List Ob}
theorem wp_value {a : Act} {w w' : World} {v : Value} {K : Act → World → Prop} {Q : Exit → Act → World → Prop} (hr : (execOp a.eval o).run P w = .ok (.value v) w') (h : K (a.put o.dst v) w') : o.wp P a w K Q := by
  unfold Oper.wp
  rw [hr]
  exact h
/-- An operation that only computes. -/
theorem QS.value (h : ∀ (w : World) (Zo : Nat → Prop) (m : List Ob) (β : List Lc) (a : Act), Mem w Zo m β → Agree mT m → (∀ x ∈ o.op.operands, RV (cx w Zo m β) (ev x) (a.eval x)) →
    ∃ v, (execOp a.eval o).run P w = .ok (.value v) w ∧ RV (cx w Zo m β) r v) : QS P o ev mT base r [] := by
  intro w Zo m β a Q M A hx _
  obtain ⟨v, h1, h2⟩ := h w Zo m β a M A hx
  exact wp_value h1 ⟨v, β, rfl, Grow.refl w, M, Cx.le.refl _, h2, fun b hb => .inl hb⟩
/-- An operation that makes one object. -/
theorem QS.new1 {ob : Ob} (h : ∀ (w : World) (Zo : Nat → Prop) (m : List Ob) (β : List Lc) (a : Act), Mem w Zo m β → Agree mT m → (∀ x ∈ o.op.operands, RV (cx w Zo m β) (ev x) (a.eval x)) →
    ∃ v w' l, (execOp a.eval o).run P w = .ok (.value v) w' ∧ Grow w w' ∧ (∀ b, ob.blk l = some b → w.heap.size ≤ b) ∧
      (∀ c', (cx w Zo m β).le c' → c'.w = w' → c'.m = m.set base ob → c'.β[base]? = some l → c'.m[base]? = some ob → OK c' l ob ∧ RV c' r v)) : QS P o ev mT base r [ob] := by
  intro w Zo m β a Q M A hx hh
  obtain ⟨v, w', l, h1, h2, h3, h4⟩ := h w Zo m β a M A hx
  have hm : m[base]? = some .hole := hh 0 (by simp)
  have hb1 : base < m.length := (List.getElem?_eq_some_iff.1 hm).1
  have hb2 : base < β.length := by rw [M.len]; exact hb1
  have g : ∀ hle : (cx w Zo m β).le (cx w' Zo (m.set base ob) (β.set base l)), OK (cx w' Zo (m.set base ob) (β.set base l)) l ob ∧ RV (cx w' Zo (m.set base ob) (β.set base l)) r v :=
    fun hle => h4 _ hle rfl rfl (List.getElem?_set_self hb2) (List.getElem?_set_self hb1)
  obtain ⟨M', hle⟩ := M.fill (ob := ob) (l := l) hm h2 h3 (fun hle => (g hle).1)
  refine wp_value h1 ⟨v, β.set base l, rfl, h2, M', hle, (g hle).2, ?_⟩
  rintro b ⟨p, q, r', g1, g2, g3⟩
  rcases getElem?_set_some g1 with ⟨e1, e2, _⟩ | ⟨hne, g1⟩
  · subst e1; subst e2
    rw [List.getElem?_set_self hb2] at g2
    cases g2
    exact .inr (h3 b g3)
  · rw [List.getElem?_set_ne (fun q => hne q.symm)] at g2
    exact .inl ⟨p, q, r', g1, g2, g3⟩
/-- In the order of the text. -/
theorem OW_of_QS {st : St} {K : St → Prop} (h : QS P o (St.ev st.t) st.m st.m.length r new) (k : K ⟨putT st.t o.dst r, st.m ++ new, st.g⟩) : OW P o st K := by
  intro w0 E Zo gh a w Q ⟨β, M, hE, hF, hd, ht, hgh⟩
  obtain ⟨M1, hle1⟩ := M.holes new.length
  have hlive1 : ∀ b, liveAt (st.m ++ List.replicate new.length .hole) (β ++ List.replicate new.length ⟨0, 0⟩) b → liveAt st.m β b := by
    rintro b ⟨p, q, l, h1, h2, h3⟩
    rcases getElem?_append_holes h1 with h1 | ⟨_, rfl⟩
    · rw [List.getElem?_append_left (by rw [M.len]; exact (List.getElem?_eq_some_iff.1 h1).1)] at h2
      exact ⟨p, q, l, h1, h2, h3⟩
    · simp [Ob.blk] at h3
  have hA : Agree st.m (st.m ++ List.replicate new.length .hole) := fun p ob hp => .inl (getElem?_append_old hp _)
  refine Oper.wp_mono ?_ (h w Zo _ _ a Q M1 hA (fun x _ => (ev_RV ht x).mono hle1) (fun j hj => ?_))
  · rintro a' w' ⟨v, β', rfl, hG, M', hle, hv, hl⟩
    rw [fills_holes] at M' hle hv hl
    refine ⟨_, k, β', M', ?_, hF.trans (hG.mono (fun _ q => q.elim)), by cases o.dst <;> exact hd, (ht.mono (hle1.trans hle)).put hv o.dst, hgh.mono (hle1.trans hle)⟩
    intro b hb
    rcases hl b hb with hb | hb
    · exact hE b (hlive1 b hb)
    · exact .inr (Nat.le_trans hF.size hb)
  · rw [List.getElem?_append_right (by omega)]
    simp [hj]
end
end Go.Pm
