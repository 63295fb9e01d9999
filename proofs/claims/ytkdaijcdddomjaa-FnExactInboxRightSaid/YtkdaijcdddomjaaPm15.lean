/- The abstract machine: a region in the order of its text; a whole function. -/
import Derived.Test.YtkdaijcdddomjaaPm14
set_option linter.unusedVariables false
set_option linter.unusedSimpArgs false
namespace Go.Pm
open Go.RowKit

def storeVC (P : Program) (t : TypeId) (m : List Ob) (x y : V) (K : List Ob → Prop) : Prop := match lay P t with
  | some (sz, _) => match cellsV m y with
    | some ys => match x with
      | .ptr q off => match m[q]? with
        | some (.box true cs) => ys.all (oneV m) = true ∧ ys.length = sz ∧ off + ys.length ≤ cs.length ∧ K (m.set q (.box true (over cs off ys)))
        | _ => False
      | .eptr q i off => match m[q]? with
        | some (.arr true esz xs) => i < xs.length ∧ ys.all (oneV m) = true ∧ ys.length = sz ∧ off + ys.length ≤ esz ∧ K (m.set q (.arr true esz (xs.set i (over (xs.getD i []) off ys))))
        | _ => False
      | _ => False
    | none => False
  | none => False
def srcV (m : List Ob) (sz : Nat) : V → Option (List (List V))
  | .str s => if sz = 1 then some (bytesV s) else none
  | y => elemsV m y
/-- append(x, y...). -/
def appVC (P : Program) (t t' : TypeId) (m : List Ob) (x y : V) (K : V → List Ob → Prop) : Prop := match elt P t with
  | some e => match lay P e, zer P e with
    | some (sz, _), some zs => match srcV m sz y with
      | some ys => 0 < sz ∧ zs.length = sz ∧ seqT P t' = true ∧ (∀ z ∈ ys, z.length = sz) ∧ (∀ z ∈ ys.flatten, oneV m z = true) ∧ match x with
        | .ar q 0 n => match m[q]? with
          | some (.arr true sz' xs) => sz' = sz ∧ xs.length = n ∧ (n + ys.length) * P.bytesOf e ≤ 2 ^ 47 ∧ n + ys.length ≤ 2 ^ 62 ∧ K (.ar m.length 0 (n + ys.length)) (m.set q .dead ++ [.arr true sz (xs ++ ys)])
          | _ => False
        | .nil => ys.length * P.bytesOf e ≤ 2 ^ 47 ∧ ys.length ≤ 2 ^ 62 ∧ K (.ar (m.length + 1) 0 ys.length) (m ++ [.dead, .arr true sz ys])
        | _ => False
      | none => False
    | _, _ => False
  | none => False
def tmpOf : Operand → Option Tmp
  | .tmp i => some i
  | _ => none
/-- What an operation asks, in the order of the text. -/
def S1 (P : Program) (o : Oper) (st : St) (K : St → Prop) : Prop := match o.op with
  | .store t x y => storeVC P t st.m (St.ev st.t x) (St.ev st.t y) (fun m' => K ⟨putT st.t o.dst .junk, m'⟩)
  | .call c => match c.callee, c.args.toList, c.argTypes.toList with
    | .builtin .append, [x, y], [t, t'] => appVC P t t' st.m (St.ev st.t x) (St.ev st.t y) (fun r m' => K ⟨putT st.t o.dst r, m'⟩)
    | _, _, _ => cVC P c (St.ev st.t) st.m st.m.length (fun r new => K ⟨putT st.t o.dst r, st.m ++ new⟩)
  | op => Q1 P op (St.ev st.t) st.m st.m.length (fun r new => K ⟨putT st.t o.dst r, st.m ++ new⟩)

section
variable {P : Program} {o : Oper} {st : St} {K : St → Prop}
theorem OW.mono {K' : St → Prop} (h : OW P o st K) (hk : ∀ st, K st → K' st) : OW P o st K' :=
  fun w0 E Zo a w Q r => Oper.wp_mono (fun a w ⟨st', k, r'⟩ => ⟨st', hk st' k, r'⟩) (h w0 E Zo a w Q r)
theorem OW_of_Q1 (h : Q1 P o.op (St.ev st.t) st.m st.m.length (fun r new => K ⟨putT st.t o.dst r, st.m ++ new⟩)) : OW P o st K := by
  obtain ⟨r, new, h1, h2⟩ := Q1_sound h
  exact OW_of_QS h1 h2
theorem src_of {sz : Nat} {y : V} {ys : List (List V)} (h : srcV st.m sz y = some ys) (hl : ∀ z ∈ ys, z.length = sz) : Src P st.m sz y ys := by
  unfold srcV at h
  split at h
  · split at h
    · rename_i hs; subst hs
      simp only [Option.some.injEq] at h; subst h
      exact src_str
    · cases h
  · exact src_elems h hl
theorem S1_sound (h : S1 P o st K) : OW P o st K := by
  unfold S1 at h
  split at h
  · rename_i t x y ho
    unfold storeVC at h
    split at h
    · rename_i sz ag hl
      split at h
      · rename_i ys hy
        split at h
        · rename_i q off hx
          split at h
          · rename_i cs hm
            exact s_store_box ho hl hx hm hy (fun z hz => List.all_eq_true.1 h.1 z hz) h.2.1 h.2.2.1 h.2.2.2
          · exact h.elim
        · rename_i q i off hx
          split at h
          · rename_i esz xs hm
            exact s_store_arr ho hl hx hm h.1 hy (fun z hz => List.all_eq_true.1 h.2.1 z hz) h.2.2.1 h.2.2.2.1 h.2.2.2.2
          · exact h.elim
        · exact h.elim
      · exact h.elim
    · exact h.elim
  · rename_i c ho
    split at h
    · rename_i x y t t' hc ha ht
      obtain ⟨callee, args, ts⟩ := c
      simp only at hc ha ht
      subst hc
      have hargs : args = #[x, y] := by obtain ⟨l⟩ := args; simp at ha; subst ha; rfl
      have hts : ts = #[t, t'] := by obtain ⟨l⟩ := ts; simp at ht; subst ht; rfl
      subst hargs; subst hts
      unfold appVC at h
      split at h
      · rename_i e he
        split at h
        · rename_i sz ag zs hl hz
          split at h
          · rename_i ys hy
            obtain ⟨a1, a2, a3, a4, a5, h⟩ := h
            split at h
            · rename_i q n hx
              split at h
              · rename_i sz' xs hm
                obtain ⟨rfl, b1, b2, b3, b4⟩ := h
                exact s_append (ty := o.type) ho he hl a1 hz a2 a3 hx hm b1 (src_of hy a4) a4 a5 b2 b3 b4
              · exact h.elim
            · rename_i hx
              obtain ⟨b2, b3, b4⟩ := h
              exact s_append_nil (ty := o.type) ho he hl a1 hz a2 a3 hx (src_of hy a4) a4 a5 b2 b3 b4
            · exact h.elim
          · exact h.elim
        · exact h.elim
      · exact h.elim
    · refine OW_of_Q1 ?_
      rw [ho]
      exact h
  · refine OW_of_Q1 h
end
end Go.Pm
