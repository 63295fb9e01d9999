/- The abstract machine: a region in the order of its text; a whole function. -/
import Derived.Test.YtkdaijcdddomjaaPm24
import Derived.Test.YtkdaijcdddomjaaPm28
import Derived.Laws.Cover3
set_option linter.unusedVariables false
set_option linter.unusedSimpArgs false
namespace Go.Pm
open Go.RowKit

def storeVC (P : Program) (t : TypeId) (m : List Ob) (x y : V) (K : List Ob → Prop) : Prop := match lay P t with
  | some (sz, _) => match cellsV m y with
    | some ys => match x with
      | .ptr q off => match m[q]? with
        | some (.box true cs) => ys.all (oneV m) = true ∧ ys.length = sz ∧ off + ys.length ≤ cs.length ∧ K (m.set q (.box true (over cs off ys)))
        | _ => False
      | .eptr q i off => match m[q]? with
        | some (.arr true esz xs) => i < xs.length ∧ ys.all (oneV m) = true ∧ ys.length = sz ∧ off + ys.length ≤ esz ∧ K (m.set q (.arr true esz (xs.set i (over (xs.getD i []) off ys))))
        | _ => False
      | _ => False
    | none => False
  | none => False
/-- append(x, y...). -/
def appVC (P : Program) (t t' : TypeId) (m : List Ob) (x y : V) (K : V → List Ob → Prop) : Prop := match elt P t with
  | some e => match lay P e, zer P e with
    | some (sz, _), some zs => match srcV m sz y with
      | some ys => 0 < sz ∧ zs.length = sz ∧ seqT P t' = true ∧ (∀ z ∈ ys, z.length = sz) ∧ (∀ z ∈ ys.flatten, oneV m z = true) ∧ match x with
        | .ar q 0 n => match m[q]? with
          | some (.arr true sz' xs) => sz' = sz ∧ xs.length = n ∧ (n + ys.length) * P.bytesOf e ≤ 2 ^ 47 ∧ n + ys.length ≤ 2 ^ 62 ∧ K (.ar m.length 0 (n + ys.length)) (m.set q .dead ++ [.arr true sz (xs ++ ys)])
          | _ => False
        | .e0 => ys.length * P.bytesOf e ≤ 2 ^ 47 ∧ ys.length ≤ 2 ^ 62 ∧ K (.ar m.length 0 ys.length) (m ++ [.arr true sz ys])
        | .nil => ys.length * P.bytesOf e ≤ 2 ^ 47 ∧ ys.length ≤ 2 ^ 62 ∧ K (.ar (m.length + 1) 0 ys.length) (m ++ [.dead, .arr true sz ys])
        | .arc q off len cap => match m[q]? with
          | some (.arr true sz' xs) => sz' = sz ∧ len + ys.length ≤ cap ∧ off + len + ys.length ≤ xs.length ∧ K (.arc q off (len + ys.length) cap) (m.set q (.arr true sz (xs.take (off + len) ++ ys ++ xs.drop (off + len + ys.length))))
          | _ => False
        | _ => False
      | none => match x with
        | .arc q off len cap => match y with
          | .int _ n => match m[q]?, intT P t' with
            | some (.arr true sz' xs), some _ => sz' = sz ∧ 0 < sz ∧ zs.length = sz ∧ 0 < n ∧ cap < len + n.toNat ∧ (len + n.toNat) * P.bytesOf e ≤ 2 ^ 47 ∧ len + n.toNat ≤ 2 ^ 62 ∧ K (.ar m.length 0 (len + n.toNat)) (m ++ [.arr true sz ((xs.drop off).take len ++ List.replicate n.toNat zs)])
            | _, _ => False
          | _ => False
        | _ => False
    | _, _ => False
  | none => False
/-- A slice of an object. -/
def arV : V → Option (Nat × Nat × Nat)
  | .ar q off len => some (q, off, len)
  | .arc q off len _ => some (q, off, len)
  | _ => none
theorem arV_as {x : V} {q off len : Nat} (h : arV x = some (q, off, len)) : AsAr x q off len := by
  cases x <;> simp only [arV, Option.some.injEq, Prod.mk.injEq, reduceCtorEq] at h
  · obtain ⟨rfl, rfl, rfl⟩ := h; exact .inl rfl
  · obtain ⟨rfl, rfl, rfl⟩ := h; exact .inr ⟨_, rfl⟩
/-- copy(x, y). -/
def cpyVC (P : Program) (t : TypeId) (m : List Ob) (x y : V) (K : V → List Ob → Prop) : Prop := match elt P t with
  | some e => match lay P e with
    | some (sz, _) => match elemsV m y, arV x with
      | some ys, some (q, off, len) => match m[q]? with
        | some (.arr true sz' xs) => sz' = sz ∧ 0 < sz ∧ (∀ z ∈ ys.take (Nat.min ys.length len), z.length = sz) ∧ (∀ z ∈ (ys.take (Nat.min ys.length len)).flatten, oneV m z = true) ∧ K (.int .i64 (Nat.min ys.length len : Nat)) (m.set q (.arr true sz (xs.take off ++ ys.take (Nat.min ys.length len) ++ xs.drop (off + Nat.min ys.length len))))
        | _ => False
      | _, _ => False
    | none => False
  | none => False
def ovVC (P : Program) (f : FuncId) (fs cs xs : List V) (m : List Ob) (K : V → List Ob → Prop) : Prop := fs = [] ∧ cs = [] ∧ ovOK P f m xs ∧ K (.bool false) m
def lcV (P : Program) (c : Call) (ev : Operand → V) (m : List Ob) (K : V → List Ob → Prop) : Prop := match c.callee with
  | .value x => match ev x with
    | .fn f fs cs => lcVC P f (fs ++ c.args.toList.map ev ++ cs) m K ∨ ovVC P f fs cs (c.args.toList.map ev) m K
    | _ => False
  | _ => False
def tmpOf : Operand → Option Tmp
  | .tmp i => some i
  | _ => none
/-- clear(x). -/
def clrVC (P : Program) (t : TypeId) (m : List Ob) (x : V) (K : List Ob → Prop) : Prop := match elt P t with
  | some e => match lay P e, zer P e with
    | some (sz, _), some zs => match arV x with
      | some (q, off, len) => match m[q]? with
        | some (.arr true sz' xs) => sz' = sz ∧ 0 < sz ∧ zs.length = sz ∧ zs.all (oneV m) = true ∧ K (m.set q (.arr true sz (xs.take off ++ List.replicate len zs ++ xs.drop (off + len))))
        | _ => False
      | _ => False
    | _, _ => False
  | none => False
/-- A slice, held against nil. -/
def nilop (op : BinOp) (b : Bool) (K : V → Prop) : Prop := match op with
  | .eql => K (.bool b)
  | .neq => K (.bool (!b))
  | _ => False
def nilS (P : Program) (op : BinOp) (t : TypeId) (m : List Ob) (x : V) (K : V → Prop) : Prop := match elt P t with
  | some _ => match x with
    | .nil => nilop op true K
    | x => ∃ xs, elemsV m x = some xs ∧ ∀ b, (b = true → xs = []) → nilop op b K
  | none => False
def bnX (P : Program) (q : Bool) (op : BinOp) (e : TypeId) (m : List Ob) (x y : V) (K : V → Prop) : Prop := match y with
  | .nil => match q with
    | false => nilS P op e m x K
    | true => binVC P op e x .nil K
  | y => binVC P op e x y K
/-- What an operation asks, in the order of the text. -/
def S1 (P : Program) (o : Oper) (st : St) (K : St → Prop) : Prop := match o.op with
  | .store t x y => storeVC P t st.m (St.ev st.t x) (St.ev st.t y) (fun m' => K ⟨putT st.t o.dst .junk, m', st.g⟩)
  | .call c => match c.callee, c.args.toList, c.argTypes.toList with
    | .builtin .append, [x, y], [t, t'] => appVC P t t' st.m (St.ev st.t x) (St.ev st.t y) (fun r m' => K ⟨putT st.t o.dst r, m', st.g⟩)
    | .builtin .copy, [x, y], [t, _] => cpyVC P t st.m (St.ev st.t x) (St.ev st.t y) (fun r m' => K ⟨putT st.t o.dst r, m', st.g⟩)
    | .builtin .clear, [x], [t] => clrVC P t st.m (St.ev st.t x) (fun m' => K ⟨putT st.t o.dst (.tup []), m', st.g⟩)
    | .value x, _, _ => cVC P c (St.ev st.t) st.m st.m.length (fun r new => K ⟨putT st.t o.dst r, st.m ++ new, st.g⟩) ∨ lcV P c (St.ev st.t) st.m (fun r m' => K ⟨putT st.t o.dst r, m', st.g⟩)
    | _, _, _ => cVC P c (St.ev st.t) st.m st.m.length (fun r new => K ⟨putT st.t o.dst r, st.m ++ new, st.g⟩)
  | .buildSlice t len ps => bsliceVC P t len st.m st.m.length (St.ev st.t) ps.toList (fun r new => K ⟨putT st.t o.dst r, st.m ++ new, st.g⟩)
  | .binOp op t x y _ => bnX P false op t st.m (St.ev st.t x) (St.ev st.t y) (fun r => K ⟨putT st.t o.dst r, st.m, st.g⟩)
  | op => Q1 P op (St.ev st.t) st.m st.m.length (fun r new => K ⟨putT st.t o.dst r, st.m ++ new, st.g⟩)

section
variable {P : Program} {o : Oper} {st : St} {K : St → Prop}
theorem OW.mono {K' : St → Prop} (h : OW P o st K) (hk : ∀ st, K st → K' st) : OW P o st K' :=
  fun w0 E Zo gh a w Q r => Oper.wp_mono (fun a w ⟨st', k, r'⟩ => ⟨st', hk st' k, r'⟩) (h w0 E Zo gh a w Q r)
theorem OW_of_Q1 (h : Q1 P o.op (St.ev st.t) st.m st.m.length (fun r new => K ⟨putT st.t o.dst r, st.m ++ new, st.g⟩)) : OW P o st K := by
  obtain ⟨r, new, h1, h2⟩ := Q1_sound h
  exact OW_of_QS h1 h2
theorem run_nilop {w : World} {op : BinOp} {t e : TypeId} {A : Option Addr} {n c : Nat} {K' : V → Prop} (he : elt P t = some e) (h : nilop op A.isNone K') (xo yo : Operand) :
    ∃ b, K' (.bool b) ∧ ((do eqGuard op t xo yo (.slice A n c) (.slice none 0 0); binOp op t (.slice A n c) (.slice none 0 0)) : Sem Value).run P w = .ok (.bool b) w := by
  have hg : (eqGuard op t xo yo (.slice A n c) (.slice none 0 0)).run P w = .ok () w := by
    unfold eqGuard
    cases op <;> simp
  cases op <;> simp only [nilop] at h <;> try exact h.elim
  · refine ⟨_, h, ?_⟩
    simp only [Sem.run_bind, hg, Result.andThen_ok, binOp]
    simp [run_equal_slice_nil w t e A n c (elt_out he)]
  · refine ⟨_, h, ?_⟩
    simp only [Sem.run_bind, hg, Result.andThen_ok, binOp]
    simp [run_equal_slice_nil w t e A n c (elt_out he)]
theorem s_nil {op : BinOp} {t u : TypeId} {x y : Operand} (ho : o.op = .binOp op t x y u) (hy : St.ev st.t y = .nil) (h : nilS P op t st.m (St.ev st.t x) (fun r => K ⟨putT st.t o.dst r, st.m, st.g⟩)) : OW P o st K := by
  intro w0 E Zo gh a w Q ⟨β, M, hE, hF, hd, ht, hgh⟩
  unfold nilS at h
  split at h
  · rename_i e he
    have hvy := ev_RV ht y
    rw [hy] at hvy
    have hvy : a.eval y = .slice none 0 0 := hvy
    have hvx := ev_RV ht x
    have key : ∀ A n c, a.eval x = .slice A n c → nilop op A.isNone (fun r => K ⟨putT st.t o.dst r, st.m, st.g⟩) → o.wp P a w (fun a' w' => ∃ st', K st' ∧ Rel w0 E Zo gh st' a' w') Q := by
      intro A n c ex hk
      obtain ⟨b, h1, h2⟩ := run_nilop (P := P) (w := w) (n := n) (c := c) he hk x y
      refine wp_value (v := .bool b) (w' := w) ?_ ⟨_, h1, β, M, hE, hF, by cases o.dst <;> exact hd, ht.put (x := .bool b) rfl o.dst, hgh⟩
      simp only [execOp, ho]
      rw [ex, hvy, Sem.run_bind, h2]
      rfl
    split at h
    · rename_i hx
      rw [hx] at hvx
      exact key none 0 0 hvx h
    · obtain ⟨xs, h1, h2⟩ := h
      obtain ⟨A', cp, e1, g1, g2, g3⟩ := elems_at M (Agree.refl _) h1 hvx
      refine key A' _ cp e1 (h2 _ fun hb => ?_)
      rcases g3 with g3 | ⟨sz, b, p, _, g3, _⟩
      · exact g3
      · rw [g3] at hb; cases hb
  · exact h.elim
theorem S1_sound (h : S1 P o st K) : OW P o st K := by
  unfold S1 at h
  split at h
  · rename_i t x y ho
    unfold storeVC at h
    split at h
    · rename_i sz ag hl
      split at h
      · rename_i ys hy
        split at h
        · rename_i q off hx
          split at h
          · rename_i cs hm
            exact s_store_box ho hl hx hm hy (fun z hz => List.all_eq_true.1 h.1 z hz) h.2.1 h.2.2.1 h.2.2.2
          · exact h.elim
        · rename_i q i off hx
          split at h
          · rename_i esz xs hm
            exact s_store_arr ho hl hx hm h.1 hy (fun z hz => List.all_eq_true.1 h.2.1 z hz) h.2.2.1 h.2.2.2.1 h.2.2.2.2
          · exact h.elim
        · exact h.elim
      · exact h.elim
    · exact h.elim
  · rename_i c ho
    split at h
    · rename_i x y t t' hc ha ht
      obtain ⟨callee, args, ts⟩ := c
      simp only at hc ha ht
      subst hc
      have hargs : args = #[x, y] := by obtain ⟨l⟩ := args; simp at ha; subst ha; rfl
      have hts : ts = #[t, t'] := by obtain ⟨l⟩ := ts; simp at ht; subst ht; rfl
      subst hargs; subst hts
      unfold appVC at h
      split at h
      · rename_i e he
        split at h
        · rename_i sz ag zs hl hz
          split at h
          · rename_i ys hy
            obtain ⟨a1, a2, a3, a4, a5, h⟩ := h
            split at h
            · rename_i q n hx
              split at h
              · rename_i sz' xs hm
                obtain ⟨rfl, b1, b2, b3, b4⟩ := h
                exact s_append (ty := o.type) ho he hl a1 hz a2 a3 hx hm b1 (src_of hy a4) a4 a5 b2 b3 b4
              · exact h.elim
            · rename_i hx
              obtain ⟨b2, b3, b4⟩ := h
              obtain ⟨r, new, k1, k2⟩ := q_append0 (ev := St.ev st.t) (mT := st.m) (base := st.m.length) (K := fun r new => K ⟨putT st.t o.dst r, st.m ++ new, st.g⟩) ho he hl a1 hz a2 a3 (.inr hx) (src_of hy a4) a4 b2 b3 b4
              exact OW_of_QS k1 k2
            · rename_i hx
              obtain ⟨b2, b3, b4⟩ := h
              exact s_append_nil (ty := o.type) ho he hl a1 hz a2 a3 hx (src_of hy a4) a4 a5 b2 b3 b4
            · rename_i q off len cap hx
              split at h
              · rename_i sz' xs hm
                obtain ⟨rfl, b1, b2, b4⟩ := h
                exact s_append_arc (ty := o.type) ho he hl a1 hz a2 a3 hx hm (src_of hy a4) a4 a5 b1 b2 b4
              · exact h.elim
            · exact h.elim
          · split at h
            · rename_i q off len cap hx
              split at h
              · rename_i ik n hyv
                split at h
                · rename_i sz' xs ik' hm hit
                  obtain ⟨rfl, b1, b2, b3, b4, b5, b6, b7⟩ := h
                  have hn : n = ((n.toNat : Nat) : Int) := by omega
                  rw [hn] at hyv
                  have hu : P.underlying t' = some (.int ik') := by
                    unfold intT at hit
                    split at hit
                    · rename_i hu; rw [hu]; simpa using hit
                    · cases hit
                  exact s_append_make ho he hl b1 hz b2 hu hx hm hyv (by omega) b4 b5 b6 b7
                · exact h.elim
              · exact h.elim
            · exact h.elim
        · exact h.elim
      · exact h.elim
    · rename_i x y t t' hc ha ht
      obtain ⟨callee, args, ts⟩ := c
      simp only at hc ha ht
      subst hc
      have hargs : args = #[x, y] := by obtain ⟨l⟩ := args; simp at ha; subst ha; rfl
      have hts : ts = #[t, t'] := by obtain ⟨l⟩ := ts; simp at ht; subst ht; rfl
      subst hargs; subst hts
      unfold cpyVC at h
      split at h
      · rename_i e he
        split at h
        · rename_i sz ag hl
          split at h
          · rename_i ys q off len hy hx
            split at h
            · rename_i sz' xs hm
              obtain ⟨rfl, b1, b2, b3, b4⟩ := h
              exact s_copy ho he hl b1 (arV_as hx) hm hy b2 b3 b4
            · exact h.elim
          · exact h.elim
        · exact h.elim
      · exact h.elim
    · rename_i x t hc ha ht
      obtain ⟨callee, args, ts⟩ := c
      simp only at hc ha ht
      subst hc
      have hargs : args = #[x] := by obtain ⟨l⟩ := args; simp at ha; subst ha; rfl
      have hts : ts = #[t] := by obtain ⟨l⟩ := ts; simp at ht; subst ht; rfl
      subst hargs; subst hts
      unfold clrVC at h
      split at h
      · rename_i e he
        split at h
        · rename_i sz ag zs hl hz
          split at h
          · rename_i q off len hx
            split at h
            · rename_i sz' xs hm
              obtain ⟨rfl, b1, b2, b3, b4⟩ := h
              exact s_clear ho he hl b1 hz b2 (fun z hz => List.all_eq_true.1 b3 z hz) (arV_as hx) hm b4
            · exact h.elim
          · exact h.elim
        · exact h.elim
      · exact h.elim
    · rename_i x hc
      rcases h with h | h
      · refine OW_of_Q1 ?_
        rw [ho]
        exact h
      · obtain ⟨callee, args, ts⟩ := c
        simp only at hc
        subst hc
        unfold lcV at h
        simp only at h
        split at h
        · rename_i f fs cs hf
          rcases h with h | ⟨rfl, rfl, h2, h3⟩
          · exact s_callL ho hf h
          · obtain ⟨r, new, k1, k2⟩ := q_overlaps (ev := St.ev st.t) (mT := st.m) (base := st.m.length) (K := fun r new => r = .bool false ∧ new = []) ho hf h2 ⟨rfl, rfl⟩
            obtain ⟨rfl, rfl⟩ := k2
            refine OW_of_QS k1 ?_
            rw [List.append_nil]
            exact h3
        · exact h.elim
    · refine OW_of_Q1 ?_
      rw [ho]
      exact h
  · rename_i t len ps ho
    obtain ⟨r, new, k1, k2⟩ := bslice_sound ho h
    exact OW_of_QS k1 k2
  · rename_i op t x y u ho
    unfold bnX at h
    have hq : binVC P op t (St.ev st.t x) (St.ev st.t y) (fun r => K ⟨putT st.t o.dst r, st.m, st.g⟩) → OW P o st K := by
      intro h
      refine OW_of_Q1 ?_
      rw [ho]
      simpa [Q1] using h
    split at h
    · rename_i hy
      exact s_nil ho hy h
    · exact hq h
  · refine OW_of_Q1 h
end
end Go.Pm
