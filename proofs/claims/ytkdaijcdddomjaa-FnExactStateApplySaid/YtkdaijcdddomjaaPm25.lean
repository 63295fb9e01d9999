/- The abstract machine: values that say less; nil in a cell becomes a new slice of no elements. -/
import Derived.Test.YtkdaijcdddomjaaPm22
set_option linter.unusedVariables false
namespace Go.Pm
open Go.RowKit
theorem all_cons {α : Type} {a : α} {l : List α} {p : α → Prop} : (∀ z, z ∈ a :: l → p z) = (p a ∧ ∀ z, z ∈ l → p z) := by simp
theorem all_nil {α : Type} {p : α → Prop} : (∀ z, z ∈ ([] : List α) → p z) = True := by simp
attribute [method_specs_simp ↓] all_cons all_nil
attribute [method_specs_simp] all_cons all_nil List.flatten_cons List.flatten_nil
theorem packV_nil : packV [] = .tup [] := nr rfl
attribute [method_specs_simp] packV_nil
def VLe (x y : V) : Prop := ∀ (c : Cx) (v : Value), RV c x v → RV c y v
def VLes (xs ys : List V) : Prop := ∀ (c : Cx) (us : List Value), RVs c xs us → RVs c ys us
theorem VLe.refl (x : V) : VLe x x := fun _ _ h => h
theorem VLe.nil (sz : Nat) : VLe .nil (.sl sz []) := fun c v h => ⟨none, 0, h, Nat.le_refl _, by decide, .inl rfl⟩
theorem VLe.agg {xs ys : List V} (h : VLes xs ys) : VLe (.agg xs) (.agg ys) := fun c v ⟨us, e, k⟩ => ⟨us, e, h c _ k⟩
theorem VLes.nil : VLes [] [] := fun _ _ h => h
theorem VLes.cons {x y : V} {xs ys : List V} (h : VLe x y) (hs : VLes xs ys) : VLes (x :: xs) (y :: ys) := fun c us ⟨u, us', e, h1, h2⟩ => ⟨u, us', e, h c u h1, hs c us' h2⟩
theorem VLes.same {x : V} {xs ys : List V} (hs : VLes xs ys) : VLes (x :: xs) (x :: ys) := VLes.cons (VLe.refl x) hs
section
variable {P : Program} {f : FuncId} {xs ys : List V} {r : V} {m m' : List Ob}
theorem Con.weak (h : Con P f ys r) (hl : VLes xs ys) : Con P f xs r := ⟨h.ok, h.pr, fun w Zo us hz hu => h.c w Zo us hz (hl _ _ hu)⟩
theorem NCon.weak (h : NCon P f ys r m') (hl : VLes xs ys) : NCon P f xs r m' := ⟨h.ok, h.pu, fun w Zo us hz hu => h.c w Zo us hz (hl _ _ hu)⟩
theorem LCon.weak (h : LCon P f ys m r m') (hl : VLes xs ys) : LCon P f xs m r m' := ⟨h.ok, fun w Zo β us M hu => h.c w Zo β us M (hl _ _ hu)⟩
end
section
variable {w : World} {Zo : Nat → Prop} {m : List Ob} {β : List Lc}
theorem RC.set {c : Cx} {b : Nat} : ∀ {cs : List V} {o i : Nat} {x y : V}, RC c b o cs → cs[i]? = some x → (∀ v, RV c x v → RV c y v) → RC c b o (cs.set i y)
  | [], o, i, x, y, h, hi, _ => by simp at hi
  | z :: cs, o, 0, x, y, ⟨⟨u, e, h1⟩, h2⟩, hi, k => by
    simp at hi; subst hi
    exact ⟨⟨u, e, k u h1⟩, h2⟩
  | z :: cs, o, i + 1, x, y, ⟨h1, h2⟩, hi, k => ⟨h1, RC.set h2 (by simpa using hi) k⟩
/-- Nil in a cell becomes a new slice of no elements. -/
theorem Mem.nilcell {q i sz : Nat} {lv : Bool} {cs : List V} (M : Mem w Zo m β) (hm : m[q]? = some (.box lv cs)) (hi : cs[i]? = some .nil) (hsz : 0 < sz) :
    Mem w Zo (m.set q (.box lv (cs.set i (.ar m.length 0 0))) ++ [.arr true sz []]) (β ++ [⟨0, 0⟩]) ∧ (cx w Zo m β).le (cx w Zo (m.set q (.box lv (cs.set i (.ar m.length 0 0))) ++ [.arr true sz []]) (β ++ [⟨0, 0⟩])) ∧
      (∀ b, liveAt (m.set q (.box lv (cs.set i (.ar m.length 0 0))) ++ [.arr true sz []]) (β ++ [⟨0, 0⟩]) b → liveAt m β b) := by
  have hq : q < m.length := (List.getElem?_eq_some_iff.1 hm).1
  generalize hob : Ob.box lv (cs.set i (.ar m.length 0 0)) = ob
  have hblk : ∀ l, ob.blk l = (Ob.box lv cs).blk l := by intro l; rw [← hob]; cases lv <;> rfl
  have g : ∀ (p : Nat) (x : Ob) (l : Lc), (m.set q ob ++ [.arr true sz []])[p]? = some x → (β ++ [⟨0, 0⟩])[p]? = some l → (p = m.length ∧ x = .arr true sz [] ∧ l = ⟨0, 0⟩) ∨ (p = q ∧ x = ob ∧ β[q]? = some l) ∨ (p ≠ q ∧ p < m.length ∧ m[p]? = some x ∧ β[p]? = some l) := by
    intro p x l h1 h2
    rcases getElem?_append_one _ _ _ _ h1 with h1 | ⟨h1, e1⟩
    · have hp : p < m.length := by have := (List.getElem?_eq_some_iff.1 h1).1; simpa using this
      rcases getElem?_append_one _ _ _ _ h2 with h2 | ⟨h2, e2⟩
      · rcases getElem?_set_some h1 with ⟨e3, e4, _⟩ | ⟨hne, h1⟩
        · exact .inr (.inl ⟨e3, e4, by rw [← e3]; exact h2⟩)
        · exact .inr (.inr ⟨hne, hp, h1, h2⟩)
      · rw [M.len] at h2; omega
    · rcases getElem?_append_one _ _ _ _ h2 with h2 | ⟨h2, e2⟩
      · have := (List.getElem?_eq_some_iff.1 h2).1
        rw [h1] at this; simp at this; rw [M.len] at this; omega
      · exact .inl ⟨by rw [h1]; simp, e1, e2⟩
  have g' : ∀ (p : Nat) (x : Ob) (l : Lc) (b : Nat), (m.set q ob ++ [.arr true sz []])[p]? = some x → (β ++ [⟨0, 0⟩])[p]? = some l → x.blk l = some b → ∃ x', m[p]? = some x' ∧ β[p]? = some l ∧ x'.blk l = some b := by
    intro p x l b h1 h2 h3
    rcases g p x l h1 h2 with ⟨_, rfl, rfl⟩ | ⟨rfl, rfl, h4⟩ | ⟨_, _, h4, h5⟩
    · simp [Ob.blk] at h3
    · exact ⟨_, hm, h4, by rw [← hblk]; exact h3⟩
    · exact ⟨x, h4, h5, h3⟩
  have hlive : ∀ b, liveAt (m.set q ob ++ [.arr true sz []]) (β ++ [⟨0, 0⟩]) b → liveAt m β b := by
    rintro b ⟨p, x, l, h1, h2, h3⟩
    obtain ⟨x', a1, a2, a3⟩ := g' p x l b h1 h2 h3
    exact ⟨p, x', l, a1, a2, a3⟩
  have hqb : q < β.length := by rw [M.len]; exact hq
  have hle : (cx w Zo m β).le (cx w Zo (m.set q ob ++ [.arr true sz []]) (β ++ [⟨0, 0⟩])) := by
    refine ⟨fun b hf => ⟨⟨hf.1, fun hz => hf.2 (hz.imp id (hlive b))⟩, rfl⟩, fun p _ => ?_⟩
    show obLe m[p]? β[p]? (m.set q ob ++ [.arr true sz []])[p]? (β ++ [⟨0, 0⟩])[p]?
    by_cases e : p = q
    · subst e
      rw [List.getElem?_append_left (by simpa using hq), List.getElem?_set_self hq, List.getElem?_append_left hqb, hm, List.getElem?_eq_getElem hqb, ← hob]
      exact .inr ⟨_, _, _, rfl, rfl, rfl⟩
    · rcases Nat.lt_or_ge p m.length with h | h
      · rw [List.getElem?_append_left (by simpa using h), List.getElem?_set_ne (fun h => e h.symm), List.getElem?_append_left (by rw [M.len]; exact h)]
        exact obLe_refl _ _
      · rw [List.getElem?_eq_none h]
        unfold obLe
        split <;> simp_all
  refine ⟨⟨by simp [M.len], ?_, ?_, fun b h => M.out b (hlive b h), M.zlt⟩, hle, hlive⟩
  · intro p x l h1 h2
    rcases g p x l h1 h2 with ⟨_, rfl, rfl⟩ | ⟨rfl, rfl, h4⟩ | ⟨_, _, h4, h5⟩
    · exact ⟨Nat.le_refl _, by decide, hsz, .inl rfl⟩
    · obtain ⟨us, e, fr, k1, k2, k3, k4, k5⟩ := (M.ok _ _ l hm h4).mono hle (fun b hb => rfl)
      have key : OK (cx w Zo (m.set p x ++ [.arr true sz []]) (β ++ [⟨0, 0⟩])) l (.box lv (cs.set i (.ar m.length 0 0))) := by
        refine ⟨us, e, fr, k1, by simpa using k2, k3, ?_, k5⟩
        refine RC.set k4 hi fun v hv => ?_
        have a1 : (m.set p x ++ [Ob.arr true sz []])[m.length]? = some (.arr true sz []) := by
          rw [List.getElem?_append_right (by simp)]; simp
        have a2 : (β ++ [(⟨0, 0⟩ : Lc)])[m.length]? = some ⟨0, 0⟩ := by
          rw [List.getElem?_append_right (by rw [M.len]; exact Nat.le_refl _), M.len]; simp
        unfold RV
        show match (m.set p x ++ [Ob.arr true sz []])[m.length]?, (β ++ [(⟨0, 0⟩ : Lc)])[m.length]? with
          | some (.arr _ sz xs), some l => 0 + 0 ≤ xs.length ∧ ∃ A, v = .slice A 0 (l.cap - 0) ∧ (0 < l.cap → A = some ⟨l.b, 0 * sz, none⟩)
          | some .dead, _ => True
          | _, _ => False
        rw [a1, a2]
        exact ⟨Nat.le_refl _, none, hv, fun h => by simp at h⟩
      rw [hob] at key
      exact key
    · exact (M.ok p x l h4 h5).mono hle (fun b hb => rfl)
  · intro p p' x x' l l' b h1 h2 h3 h4 h5 h6
    obtain ⟨y, a1, a2, a3⟩ := g' p x l b h1 h3 h5
    obtain ⟨y', b1, b2, b3⟩ := g' p' x' l' b h2 h4 h6
    exact M.sep _ _ _ _ _ _ b a1 b1 a2 b2 a3 b3
end
theorem SW.nilcell {P : Program} {c : Code} {t gs : List V} {m : List Ob} {Q : Exit → St → Prop} (q i sz : Nat) {lv : Bool} {cs : List V} (hm : m[q]? = some (.box lv cs)) (hi : cs[i]? = some .nil) (hsz : 0 < sz)
    (h : SW P c ⟨t, m.set q (.box lv (cs.set i (.ar m.length 0 0))) ++ [.arr true sz []], gs⟩ Q) : SW P c ⟨t, m, gs⟩ Q := by
  intro w0 E Zo gh a w ⟨β, M, h1, h2, h3, h4, h5⟩
  obtain ⟨M1, hle, hl⟩ := M.nilcell hm hi hsz
  exact h w0 E Zo gh a w ⟨_, M1, fun b hb => h1 b (hl b hb), h2, h3, h4.mono hle, h5.mono hle⟩
end Go.Pm
