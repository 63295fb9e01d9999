/- The abstract machine: a region whose order is drawn. -/
import Derived.Test.YtkdaijcdddomjaaPm15
set_option linter.unusedVariables false
set_option linter.unusedSimpArgs false
namespace Go.Pm
open Go.RowKit

/-- A guard, computed: A where the operation is wanted, B where not. -/
def gv (ds : List (Option Tmp)) (o : Oper) (t : List V) (A B : Prop) : Prop := match o.guard with
  | none => A
  | some (j, want) => match ds.getD j none with
    | some d => match t.getD d .junk with
      | .bool b => match b with
        | true => match want with
          | true => A
          | false => B
        | false => match want with
          | true => B
          | false => A
      | .tup [] => B
      | _ => False
    | none => False
def wantT (ds : List (Option Tmp)) (o : Oper) (t : List V) : Option Bool := match o.guard with
  | none => some true
  | some (j, want) => match ds.getD j none with
    | some d => match t.getD d .junk with
      | .bool b => some (b == want)
      | .tup [] => some false
      | _ => none
    | none => none
theorem gv_cases {ds : List (Option Tmp)} {o : Oper} {t : List V} {A B : Prop} (h : gv ds o t A B) : (wantT ds o t = some true ∧ A) ∨ (wantT ds o t = some false ∧ B) := by
  unfold gv at h
  unfold wantT
  cases hg : o.guard with
  | none => rw [hg] at h; exact .inl ⟨rfl, h⟩
  | some g =>
    obtain ⟨j, want⟩ := g
    rw [hg] at h
    simp only at h ⊢
    cases hd : ds.getD j none with
    | none => rw [hd] at h; exact h.elim
    | some d =>
      rw [hd] at h
      simp only at h ⊢
      cases hx : t.getD d .junk <;> rw [hx] at h <;> try simp only at h
      case bool b => cases b <;> cases want <;> simp_all
      case tup xs =>
        cases xs with
        | cons x xs => exact h.elim
        | nil => exact .inr ⟨rfl, h⟩
theorem wantT_sound {ops : Array Oper} {c : Cx} {o : Oper} {t : List V} {x : V} {a : Act} {b : Bool} (k : wantT (dsts ops) o t = some b)
    (h : ∀ j want d, o.guard = some (j, want) → (ops[j]?).bind (·.dst) = some d → RV c (t.getD d .junk) (a.tmps.getD d undef)) :
    Region.wanted o (yielded ops a.tmps) = b := by
  unfold wantT at k
  unfold Region.wanted
  cases hg : o.guard with
  | none => rw [hg] at k; simpa using k
  | some g =>
    obtain ⟨j, want⟩ := g
    rw [hg] at k
    simp only at k ⊢
    have hd : (dsts ops).getD j none = (ops[j]?).bind (·.dst) := by
      unfold dsts
      rw [List.getD_eq_getElem?_getD, List.getElem?_map, Array.getElem?_toList]
      cases ops[j]? <;> rfl
    rw [hd] at k
    unfold yielded
    cases hj : (ops[j]?).bind (·.dst) with
    | none => rw [hj] at k; cases k
    | some d =>
      rw [hj] at k
      simp only at k
      have hv := h j want d hg hj
      cases hx : t.getD d .junk <;> rw [hx] at k hv <;> try simp only [reduceCtorEq, Option.some.injEq] at k
      case bool b' =>
        have hv' : a.tmps.getD d undef = .bool b' := hv
        have h3 : a.tmps[d]? = some (.bool b') := by
          rw [Array.getD_eq_getD_getElem?] at hv'
          cases h4 : a.tmps[d]? with
          | none => rw [h4] at hv'; cases hv'
          | some v => rw [h4] at hv'; simpa using hv'
        rw [Option.bind_some, h3]
        subst k
        cases b' <;> cases want <;> rfl
      case tup xs =>
        cases xs with
        | cons x xs => cases k
        | nil =>
          simp only [Option.some.injEq] at k
          subst k
          rw [Option.bind_some]
          rcases udf_cases hv with e | e <;> rw [e] <;> rfl

/-! ### what a run in the order of the text comes to -/
abbrev Res := Option (V × List Ob)
def valOf : Res → V
  | some (r, _) => r
  | none => .tup []
def newOf : Res → List Ob
  | some (_, n) => n
  | none => []
def Run (P : Program) (ds : List (Option Tmp)) : List Oper → St → List Res → St → Prop
  | [], st, [], st' => st' = st
  | o :: os, st, some (r, new) :: rs, st' => wantT ds o st.t = some true ∧ QS P o (St.ev st.t) st.m st.m.length r new ∧ Run P ds os ⟨putT st.t o.dst r, st.m ++ new, st.g⟩ rs st'
  | o :: os, st, none :: rs, st' => wantT ds o st.t = some false ∧ Run P ds os ⟨putT st.t o.dst (.tup []), st.m, st.g⟩ rs st'
  | _, _, _, _ => False
def runT : List Oper → List Res → List Bool → List V → List V
  | o :: os, r :: rs, l :: ls, t => runT os rs ls (if l then putT t o.dst (valOf r) else t)
  | _, _, _, t => t
def flatM : List Res → List Bool → List Ob
  | r :: rs, l :: ls => (if l then newOf r else List.replicate (newOf r).length .hole) ++ flatM rs ls
  | _, _ => []
def pre (i n : Nat) : List Bool := List.replicate i true ++ List.replicate (n - i) false

theorem putT_length (t : List V) (d : Option Tmp) (x : V) : (putT t d x).length = t.length := by cases d <;> simp [putT]
theorem runT_length : ∀ (os : List Oper) (rs : List Res) (F : List Bool) (t : List V), (runT os rs F t).length = t.length
  | o :: os, r :: rs, l :: ls, t => by
    simp only [runT]
    rw [runT_length os rs ls]
    split
    · rw [putT_length]
    · rfl
  | [], _, _, t => by simp [runT]
  | _ :: _, [], _, t => by simp [runT]
  | _ :: _, _ :: _, [], t => by simp [runT]
theorem putT_getD (t : List V) (d : Option Tmp) (x : V) (s : Nat) : (putT t d x).getD s .junk = if d = some s ∧ s < t.length then x else t.getD s .junk := by
  cases d with
  | none => simp [putT]
  | some d =>
    simp only [putT, Option.some.injEq]
    rw [List.getD_eq_getElem?_getD, List.getD_eq_getElem?_getD, List.getElem?_set]
    by_cases h : d = s
    · subst h
      by_cases hl : d < t.length
      · simp [hl]
      · simp [hl]
    · simp [h]
theorem runT_agree (s : Nat) : ∀ (os : List Oper) (rs : List Res) (F G : List Bool) (t t' : List V), F.length = G.length → t.length = t'.length → (∀ (j : Nat) (o : Oper), os[j]? = some o → o.dst = some s → F[j]? = G[j]?) →
    t.getD s .junk = t'.getD s .junk → (runT os rs F t).getD s .junk = (runT os rs G t').getD s .junk
  | o :: os, r :: rs, l :: ls, g :: gs, t, t', hF, ht, h, e => by
    simp only [runT]
    refine runT_agree s os rs ls gs _ _ (by simpa using hF) ?_ (fun j o' hj hd => by simpa using h (j + 1) o' (by simpa using hj) hd) ?_
    · split <;> split <;> simp only [putT_length, ht]
    · by_cases hd : o.dst = some s
      · have hlg : l = g := by simpa using h 0 o rfl hd
        subst hlg
        split
        · rw [putT_getD, putT_getD, ht, e]
        · exact e
      · have q : ∀ (u : List V) (b : Bool), (if b = true then putT u o.dst (valOf r) else u).getD s .junk = u.getD s .junk := by
          intro u b
          split
          · rw [putT_getD, if_neg (fun h => hd h.1)]
          · rfl
        rw [q, q, e]
  | [], _, _, _, t, t', _, _, _, e => by simpa [runT] using e
  | _ :: _, [], _, _, t, t', _, _, _, e => by simpa [runT] using e
  | _ :: _, _ :: _, [], [], t, t', _, _, _, e => by simpa [runT] using e
  | _ :: _, _ :: _, [], _ :: _, t, t', h, _, _, _ => by simp at h
  | _ :: _, _ :: _, _ :: _, [], t, t', h, _, _, _ => by simp at h
theorem putT_comm (t : List V) (d e : Option Tmp) (x y : V) (h : ∀ s, d = some s → e ≠ some s) : putT (putT t d x) e y = putT (putT t e y) d x := by
  cases d with
  | none => rfl
  | some d =>
    cases e with
    | none => rfl
    | some e =>
      have : d ≠ e := fun q => h d rfl (by rw [q])
      simp only [putT]
      exact List.set_comm _ _ this
theorem runT_put (d : Option Tmp) (x : V) : ∀ (os : List Oper) (rs : List Res) (F : List Bool) (t : List V), (∀ o ∈ os, ∀ s, d = some s → o.dst ≠ some s) → runT os rs F (putT t d x) = putT (runT os rs F t) d x
  | o :: os, r :: rs, l :: ls, t, h => by
    simp only [runT]
    cases l
    · simp only [Bool.false_eq_true, if_false]
      exact runT_put d x os rs ls t (fun o' ho' => h o' (List.mem_cons_of_mem _ ho'))
    · simp only [if_true]
      rw [putT_comm _ _ _ _ _ (h o List.mem_cons_self)]
      exact runT_put d x os rs ls _ (fun o' ho' => h o' (List.mem_cons_of_mem _ ho'))
  | [], _, _, t, _ => by simp [runT]
  | _ :: _, [], _, t, _ => by simp [runT]
  | _ :: _, _ :: _, [], t, _ => by simp [runT]
theorem runT_list : ∀ (os : List Oper) (rs : List Res) (F : List Bool) (t : List V) (i : Nat) (o : Oper) (r : Res), os[i]? = some o → rs[i]? = some r → F[i]? = some false →
    (∀ (j : Nat) (o' : Oper), os[j]? = some o' → j ≠ i → ∀ s, o.dst = some s → o'.dst ≠ some s) → runT os rs (F.set i true) t = putT (runT os rs F t) o.dst (valOf r)
  | o :: os, r :: rs, l :: ls, t, 0, o', r', h1, h2, h3, h => by
    simp only [List.getElem?_cons_zero, Option.some.injEq] at h1 h2 h3
    subst h1; subst h2; subst h3
    simp only [List.set_cons_zero, runT, if_true, Bool.false_eq_true, if_false]
    refine runT_put _ _ os rs ls t (fun o' ho' s hs => ?_)
    obtain ⟨j, hj⟩ := List.getElem?_of_mem ho'
    exact h (j + 1) o' (by simpa using hj) (by omega) s hs
  | o :: os, r :: rs, l :: ls, t, i + 1, o', r', h1, h2, h3, h => by
    simp only [List.getElem?_cons_succ] at h1 h2 h3
    simp only [List.set_cons_succ, runT]
    exact runT_list os rs ls _ i o' r' h1 h2 h3 (fun j o'' hj hne => h (j + 1) o'' (by simpa using hj) (by omega))
  | [], _, _, _, _, _, _, h1, _, _, _ => by simp at h1
  | _ :: _, [], _, _, _, _, _, _, h2, _, _ => by simp at h2
  | _ :: _, _ :: _, [], _, _, _, _, _, _, h3, _ => by simp at h3

/-! objects -/
theorem flatM_append : ∀ (rs rs' : List Res) (F F' : List Bool), F.length = rs.length → flatM (rs ++ rs') (F ++ F') = flatM rs F ++ flatM rs' F'
  | [], rs', F, F', h => by
    have : F = [] := List.eq_nil_of_length_eq_zero h
    subst this; simp [flatM]
  | r :: rs, rs', l :: ls, F', h => by simp [flatM, flatM_append rs rs' ls F' (by simpa using h)]
  | _ :: _, _, [], _, h => by simp at h
theorem flatM_length : ∀ (rs : List Res) (F G : List Bool), F.length = rs.length → G.length = rs.length → (flatM rs F).length = (flatM rs G).length
  | [], F, G, h1, h2 => by simp [flatM]
  | r :: rs, l :: ls, g :: gs, h1, h2 => by
    simp only [flatM, List.length_append]
    rw [flatM_length rs ls gs (by simpa using h1) (by simpa using h2)]
    cases l <;> cases g <;> simp
  | _ :: _, [], _, h, _ => by simp at h
  | _ :: _, _ :: _, [], _, h => by simp at h
theorem flatM_agree : ∀ (rs : List Res) (F : List Bool), F.length = rs.length → ∀ (p : Nat) (ob : Ob), (flatM rs (List.replicate rs.length true))[p]? = some ob → (flatM rs F)[p]? = some ob ∨ (flatM rs F)[p]? = some .hole
  | [], F, h, p, ob, hp => by simp [flatM] at hp
  | r :: rs, l :: ls, h, p, ob, hp => by
    simp only [List.length_cons, List.replicate_succ, flatM, if_true] at hp ⊢
    have hl : (if l = true then newOf r else List.replicate (newOf r).length .hole).length = (newOf r).length := by cases l <;> simp
    rcases Nat.lt_or_ge p (newOf r).length with hlt | hge
    · rw [List.getElem?_append_left hlt] at hp
      rw [List.getElem?_append_left (by rw [hl]; exact hlt)]
      cases l
      · refine .inr ?_
        simp [hlt]
      · exact .inl (by simpa using hp)
    · rw [List.getElem?_append_right hge] at hp
      rw [List.getElem?_append_right (by rw [hl]; exact hge), hl]
      exact flatM_agree rs ls (by simpa using h) _ _ hp
  | _ :: _, [], h, _, _, _ => by simp at h
theorem fills_mid (X Y new : List Ob) : fills (X ++ List.replicate new.length .hole ++ Y) X.length new = X ++ new ++ Y := by
  induction new generalizing X with
  | nil => simp [fills]
  | cons x xs ih =>
    simp only [fills, List.length_cons, List.replicate_succ]
    have h1 : (X ++ Ob.hole :: List.replicate xs.length .hole ++ Y).set X.length x = (X ++ [x]) ++ List.replicate xs.length .hole ++ Y := by
      rw [List.append_assoc, List.set_append_right _ _ (Nat.le_refl _)]
      simp
    rw [h1]
    have := ih (X ++ [x])
    simp only [List.length_append, List.length_singleton] at this
    rw [this]
    simp
/-- The objects before operation i, in the order of the text. -/
def memAt (rs : List Res) (m : List Ob) (i : Nat) : List Ob := m ++ flatM (rs.take i) (List.replicate i true)
theorem split_at {α : Type} {l : List α} {i : Nat} {x : α} (h : l[i]? = some x) : l = l.take i ++ x :: l.drop (i + 1) := by
  have hi := (List.getElem?_eq_some_iff.1 h).1
  have hx := (List.getElem?_eq_some_iff.1 h).2
  rw [← hx, List.getElem_cons_drop]
  exact (List.take_append_drop i l).symm
theorem flatM_at {rs : List Res} {F : List Bool} {i : Nat} {r : Res} {b : Bool} (hF : F.length = rs.length) (hr : rs[i]? = some r) (hb : F[i]? = some b) :
    flatM rs F = flatM (rs.take i) (F.take i) ++ (if b then newOf r else List.replicate (newOf r).length .hole) ++ flatM (rs.drop (i + 1)) (F.drop (i + 1)) := by
  have e1 := split_at hr
  have e2 := split_at hb
  have := flatM_append (rs.take i) (r :: rs.drop (i + 1)) (F.take i) (b :: F.drop (i + 1)) (by simp [hF])
  rw [← e1, ← e2] at this
  rw [this]
  simp [flatM]
theorem memAt_agree {rs : List Res} {F : List Bool} {i : Nat} {m : List Ob} (hF : F.length = rs.length) (hi : i ≤ rs.length) : Agree (memAt rs m i) (m ++ flatM rs F) := by
  intro p ob hp
  unfold memAt at hp
  rcases Nat.lt_or_ge p m.length with hlt | hge
  · rw [List.getElem?_append_left hlt] at hp
    rw [List.getElem?_append_left hlt]
    exact .inl hp
  · rw [List.getElem?_append_right hge] at hp
    rw [List.getElem?_append_right hge]
    refine flatM_agree rs F hF _ ob ?_
    have h1 := flatM_append (rs.take i) (rs.drop i) (List.replicate i true) (List.replicate (rs.length - i) true) (by simp [hi])
    rw [List.take_append_drop, List.replicate_append_replicate, show i + (rs.length - i) = rs.length by omega] at h1
    rw [h1]
    exact getElem?_append_old hp _
theorem memAt_length {rs : List Res} {F : List Bool} {i : Nat} {m : List Ob} (hF : F.length = rs.length) (hi : i ≤ rs.length) : (memAt rs m i).length = (m ++ flatM (rs.take i) (F.take i)).length := by
  unfold memAt
  rw [List.length_append, List.length_append, flatM_length (rs.take i) (List.replicate i true) (F.take i) (by simp [hi]) (by simp [hF])]

section
variable {P : Program} {ds : List (Option Tmp)}
theorem Run.len : ∀ {os : List Oper} {st st' : St} {rs : List Res}, Run P ds os st rs st' → rs.length = os.length
  | [], st, st', [], h => rfl
  | [], st, st', _ :: _, h => h.elim
  | o :: os, st, st', [], h => h.elim
  | o :: os, st, st', some (r, new) :: rs, h => by simp [Run.len h.2.2]
  | o :: os, st, st', none :: rs, h => by simp [Run.len h.2]
theorem runT_none : ∀ (os : List Oper) (rs : List Res) (n : Nat) (t : List V), runT os rs (List.replicate n false) t = t
  | o :: os, r :: rs, n + 1, t => by simp [List.replicate_succ, runT, runT_none os rs n t]
  | [], _, _, t => by simp [runT]
  | _ :: _, [], _, t => by simp [runT]
  | _ :: _, _ :: _, 0, t => by simp [runT]
theorem Run.fin : ∀ {os : List Oper} {st st' : St} {rs : List Res}, Run P ds os st rs st' → st' = ⟨runT os rs (List.replicate os.length true) st.t, st.m ++ flatM rs (List.replicate os.length true), st.g⟩
  | [], st, st', [], h => by
    have h : st' = st := h
    simp [h, runT, flatM]
  | [], st, st', _ :: _, h => h.elim
  | o :: os, st, st', [], h => h.elim
  | o :: os, st, st', some (r, new) :: rs, h => by
    rw [Run.fin h.2.2]
    simp [List.replicate_succ, runT, flatM, valOf, newOf]
  | o :: os, st, st', none :: rs, h => by
    rw [Run.fin h.2]
    simp [List.replicate_succ, runT, flatM, valOf, newOf]
theorem Run.at_ : ∀ {os : List Oper} {st st' : St} {rs : List Res} {i : Nat} {o : Oper}, Run P ds os st rs st' → os[i]? = some o → ∃ r, rs[i]? = some r ∧
    ((∃ v new, r = some (v, new) ∧ wantT ds o (runT os rs (pre i os.length) st.t) = some true ∧ QS P o (St.ev (runT os rs (pre i os.length) st.t)) (memAt rs st.m i) (memAt rs st.m i).length v new) ∨
      (r = none ∧ wantT ds o (runT os rs (pre i os.length) st.t) = some false))
  | [], st, st', rs, i, o, h, ho => by simp at ho
  | o :: os, st, st', [], i, o', h, ho => h.elim
  | o :: os, st, st', some (r, new) :: rs, 0, o', h, ho => by
    simp only [List.getElem?_cons_zero, Option.some.injEq] at ho
    subst ho
    have e1 : runT (o :: os) (some (r, new) :: rs) (pre 0 (o :: os).length) st.t = st.t := by
      simp only [pre, List.replicate_zero, List.nil_append, Nat.sub_zero]; exact runT_none _ _ _ _
    have e2 : memAt (some (r, new) :: rs) st.m 0 = st.m := by simp [memAt, flatM]
    rw [e1, e2]
    exact ⟨_, rfl, .inl ⟨r, new, rfl, h.1, h.2.1⟩⟩
  | o :: os, st, st', none :: rs, 0, o', h, ho => by
    simp only [List.getElem?_cons_zero, Option.some.injEq] at ho
    subst ho
    have e1 : runT (o :: os) (none :: rs) (pre 0 (o :: os).length) st.t = st.t := by
      simp only [pre, List.replicate_zero, List.nil_append, Nat.sub_zero]; exact runT_none _ _ _ _
    rw [e1]
    exact ⟨_, rfl, .inr ⟨rfl, h.1⟩⟩
  | o :: os, st, st', some (r, new) :: rs, i + 1, o', h, ho => by
    simp only [List.getElem?_cons_succ] at ho
    obtain ⟨r', h1, h2⟩ := Run.at_ h.2.2 ho
    have e1 : runT (o :: os) (some (r, new) :: rs) (pre (i + 1) (o :: os).length) st.t = runT os rs (pre i os.length) (putT st.t o.dst r) := by
      simp [pre, List.replicate_succ, runT, valOf]
    have e2 : memAt (some (r, new) :: rs) st.m (i + 1) = memAt rs (st.m ++ new) i := by simp [memAt, List.replicate_succ, flatM, newOf]
    rw [e1, e2]
    exact ⟨r', by simpa using h1, h2⟩
  | o :: os, st, st', none :: rs, i + 1, o', h, ho => by
    simp only [List.getElem?_cons_succ] at ho
    obtain ⟨r', h1, h2⟩ := Run.at_ h.2 ho
    have e1 : runT (o :: os) (none :: rs) (pre (i + 1) (o :: os).length) st.t = runT os rs (pre i os.length) (putT st.t o.dst (.tup [])) := by
      simp [pre, List.replicate_succ, runT, valOf]
    have e2 : memAt (none :: rs) st.m (i + 1) = memAt rs st.m i := by simp [memAt, List.replicate_succ, flatM, newOf]
    rw [e1, e2]
    exact ⟨r', by simpa using h1, h2⟩
end

/-! ### what a region asks, computed -/
/-- In the order of the text. -/
def RS (P : Program) (ds : List (Option Tmp)) : List Oper → St → (St → Prop) → Prop
  | [], st, K => K st
  | o :: os, st, K => gv ds o st.t (S1 P o st (fun st' => RS P ds os st' K)) (RS P ds os ⟨putT st.t o.dst (.tup []), st.m, st.g⟩ K)
/-- k quiet operations in any order, the rest in the order of the text. -/
def RQ (P : Program) (ds : List (Option Tmp)) : Nat → List Oper → St → (St → Prop) → Prop
  | k + 1, o :: os, st, K => gv ds o st.t (Q1 P o.op (St.ev st.t) st.m st.m.length (fun r new => RQ P ds k os ⟨putT st.t o.dst r, st.m ++ new, st.g⟩ K)) (RQ P ds k os ⟨putT st.t o.dst (.tup []), st.m, st.g⟩ K)
  | _, os, st, K => RS P ds os st K
section
variable {P : Program} {ds : List (Option Tmp)}
theorem gd_of_want {o : Oper} {t : List V} {A B : Prop} (h : (wantT ds o t = some true ∧ A) ∨ (wantT ds o t = some false ∧ B)) : gd ds o t A B := by
  unfold wantT at h
  unfold gd
  cases hg : o.guard with
  | none => rw [hg] at h; rcases h with ⟨_, h⟩ | ⟨h, _⟩
            · exact h
            · cases h
  | some g =>
    obtain ⟨j, want⟩ := g
    rw [hg] at h
    simp only at h ⊢
    cases hd : ds.getD j none with
    | none => rw [hd] at h; rcases h with ⟨h, _⟩ | ⟨h, _⟩ <;> cases h
    | some d =>
      rw [hd] at h
      simp only at h ⊢
      cases hx : t.getD d .junk <;> rw [hx] at h <;> try simp only [reduceCtorEq, false_and, or_self] at h
      case bool b => cases b <;> cases want <;> simp_all
      case tup xs =>
        cases xs with
        | cons x xs => simp at h
        | nil => simpa using h
theorem RO_of_RS : ∀ {os : List Oper} {st : St} {K : St → Prop}, RS P ds os st K → RO P ds os st K
  | [], st, K, h => h
  | o :: os, st, K, h => by
    refine gd_of_want ?_
    rcases gv_cases h with ⟨h1, h2⟩ | ⟨h1, h2⟩
    · exact .inl ⟨h1, (S1_sound h2).mono fun st' k => RO_of_RS k⟩
    · exact .inr ⟨h1, RO_of_RS h2⟩
theorem SW.region1 {st : St} {Q : Exit → St → Prop} {id : Nat} {ops : Array Oper} (h : RS P (dsts ops) ops.toList st (Q .normal)) : SW P (.region id ops false) st Q := SW.region (RO_of_RS h)
theorem RQ_run : ∀ {k : Nat} {os : List Oper} {st : St} {K : St → Prop}, RQ P ds k os st K → ∃ rs st', Run P ds (os.take k) st rs st' ∧ RS P ds (os.drop k) st' K
  | 0, os, st, K, h => ⟨[], st, by simp [Run], by cases os <;> simpa [RQ] using h⟩
  | k + 1, [], st, K, h => ⟨[], st, by simp [Run], by simpa [RQ] using h⟩
  | k + 1, o :: os, st, K, h => by
    rcases gv_cases h with ⟨h1, h2⟩ | ⟨h1, h2⟩
    · obtain ⟨r, new, h3, h4⟩ := Q1_sound h2
      obtain ⟨rs, st', h5, h6⟩ := RQ_run h4
      exact ⟨some (r, new) :: rs, st', ⟨h1, h3, h5⟩, h6⟩
    · obtain ⟨rs, st', h5, h6⟩ := RQ_run h2
      exact ⟨none :: rs, st', ⟨h1, h5⟩, h6⟩
end
end Go.Pm
