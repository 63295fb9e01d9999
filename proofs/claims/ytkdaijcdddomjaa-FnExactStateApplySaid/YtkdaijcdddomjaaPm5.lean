/- The abstract machine: each quiet operation. -/
import Derived.Test.YtkdaijcdddomjaaPm4
import Derived.ChangeKeysEq
set_option linter.unusedVariables false
namespace Go.Pm
open Go.RowKit

/-! ### types -/
def isAggD : TypeDesc → Bool
  | .struct _ => true
  | .array _ _ => true
  | _ => false
/-- A type's size in cells, and whether it is a struct or an array. -/
def lay (P : Program) (t : TypeId) : Option (Nat × Bool) := match P.info? t, P.underlying t with
  | some i, some d => some (i.size, isAggD d)
  | _, _ => none
/-- A field's offset and type's size, and whether it is a struct or an array. -/
def fld (P : Program) (s f : Nat) : Option (Nat × Nat × Bool) := match P.underlying s with
  | some (.struct fs) => match fs[f]? with
    | some fd => match lay P fd.type with
      | some (n, b) => some (fd.offset, n, b)
      | none => none
    | none => none
  | _ => none
/-- A type's zero value, by cells. -/
def zer (P : Program) (t : TypeId) : Option (List V) := match P.info? t with
  | some i => match i.zero with
    | some z => some (z.cells.toList.map ofVal1)
    | none => none
  | none => none
/-- A slice type's element type. -/
def elt (P : Program) (t : TypeId) : Option TypeId := match P.underlying t with
  | some (.slice e) => some e
  | _ => none

section
variable {P : Program} {w : World} {t : TypeId}
theorem lay_info {n : Nat} {b : Bool} (h : lay P t = some (n, b)) : ∃ i d, P.info? t = some i ∧ P.underlying t = some d ∧ i.size = n ∧ isAggD d = b := by
  unfold lay at h
  split at h
  · rename_i i d h1 h2
    simp only [Option.some.injEq, Prod.mk.injEq] at h
    exact ⟨i, d, h1, h2, h.1, h.2⟩
  · cases h
theorem run_sz {n : Nat} {b : Bool} (h : lay P t = some (n, b)) : (sizeOf t).run P w = .ok n w := by
  obtain ⟨i, d, h1, h2, h3, h4⟩ := lay_info h
  unfold sizeOf typeInfo
  simp [h1, h3]
theorem run_und {d : TypeDesc} (h : P.underlying t = some d) : (underlying t).run P w = .ok d w := by
  unfold underlying
  simp [h]
theorem run_ag {n : Nat} {b : Bool} (h : lay P t = some (n, b)) : (isAgg t).run P w = .ok b w := by
  obtain ⟨i, d, h1, h2, h3, h4⟩ := lay_info h
  unfold isAgg
  simp only [Sem.run_bind, run_und h2, Result.andThen_ok]
  subst h4
  cases d <;> simp [isAggD]
end

/-! ### addresses, cells -/
theorem add_plain (b o n : Nat) : (⟨b, o, none⟩ : Addr).add n = ⟨b, o + n, none⟩ := by
  unfold Addr.add
  split
  · rename_i h; subst h; rfl
  · rfl
section
variable {c : Cx}
theorem RC.get {b : Nat} : ∀ {cs : List V} {o : Nat} (i : Nat) {x : V}, RC c b o cs → cs[i]? = some x → ∃ u, c.w.cell? ⟨b, o + i, none⟩ = some u ∧ RV c x u
  | y :: ys, o, 0, x, ⟨h, _⟩, e => by
    simp at e; subst e
    exact h
  | y :: ys, o, i + 1, x, ⟨_, h⟩, e => by
    have := RC.get i h (by simpa using e)
    rwa [Nat.add_assoc, Nat.add_comm 1 i] at this
theorem RC.list {b : Nat} : ∀ {cs : List V} {o : Nat}, RC c b o cs → ∃ us : List Value, RVs c cs us ∧ us.length = cs.length ∧ ∀ j u, us[j]? = some u → c.w.cell? ⟨b, o + j, none⟩ = some u
  | [], o, _ => ⟨[], rfl, rfl, fun j u h => by simp at h⟩
  | y :: ys, o, ⟨⟨u, h1, h2⟩, h⟩ => by
    obtain ⟨us, k1, k2, k3⟩ := RC.list h
    refine ⟨u :: us, ⟨u, us, rfl, h2, k1⟩, by simp [k2], fun j v hj => ?_⟩
    cases j with
    | zero => simp at hj; subst hj; exact h1
    | succ j =>
      have := k3 j v (by simpa using hj)
      rwa [Nat.add_assoc, Nat.add_comm 1 j] at this
theorem RC.drop {b : Nat} : ∀ {cs : List V} {o : Nat} (i : Nat), RC c b o cs → RC c b (o + i) (cs.drop i)
  | cs, o, 0, h => h
  | [], o, i + 1, h => by simp [RC]
  | y :: ys, o, i + 1, ⟨_, h⟩ => by
    have := RC.drop i h
    rwa [Nat.add_assoc, Nat.add_comm 1 i] at this
theorem RC.take {b : Nat} : ∀ {cs : List V} {o : Nat} (i : Nat), RC c b o cs → RC c b o (cs.take i)
  | cs, o, 0, h => by simp [RC]
  | [], o, i + 1, h => by simp [RC]
  | y :: ys, o, i + 1, ⟨h1, h⟩ => ⟨h1, RC.take i h⟩
theorem RC.of {b : Nat} : ∀ {cs : List V} {us : List Value} {o : Nat}, RVs c cs us → (∀ j u, us[j]? = some u → c.w.cell? ⟨b, o + j, none⟩ = some u) → RC c b o cs
  | [], us, o, _, _ => trivial
  | y :: ys, us, o, ⟨u, us', e, h1, h2⟩, h => by
    subst e
    refine ⟨⟨u, h 0 u rfl, h1⟩, RC.of h2 fun j v hj => ?_⟩
    have := h (j + 1) v (by simpa using hj)
    rwa [Nat.add_assoc, Nat.add_comm 1 j]
theorem RR.get {sz b : Nat} : ∀ {xs : List (List V)} {o : Nat} (i : Nat) {x : List V}, RR c sz b o xs → xs[i]? = some x → x.length = sz ∧ RC c b (o + i * sz) x
  | y :: ys, o, 0, x, ⟨h1, h2, _⟩, e => by
    simp at e; subst e
    exact ⟨h1, by simpa using h2⟩
  | y :: ys, o, i + 1, x, ⟨_, _, h⟩, e => by
    have := RR.get i h (by simpa using e)
    rw [Nat.add_mul, Nat.one_mul]
    rwa [Nat.add_assoc, Nat.add_comm sz] at this
theorem RR.drop {sz b : Nat} : ∀ {xs : List (List V)} {o : Nat} (i : Nat), RR c sz b o xs → RR c sz b (o + i * sz) (xs.drop i)
  | xs, o, 0, h => by simpa using h
  | [], o, i + 1, h => by simp [RR]
  | y :: ys, o, i + 1, ⟨_, _, h⟩ => by
    have := RR.drop i h
    rw [Nat.add_mul, Nat.one_mul]
    rwa [Nat.add_assoc, Nat.add_comm sz] at this
theorem RR.take {sz b : Nat} : ∀ {xs : List (List V)} {o : Nat} (i : Nat), RR c sz b o xs → RR c sz b o (xs.take i)
  | xs, o, 0, h => by simp [RR]
  | [], o, i + 1, h => by simp [RR]
  | y :: ys, o, i + 1, ⟨h1, h2, h⟩ => ⟨h1, h2, RR.take i h⟩
/-- The elements' values, in line. -/
theorem RR.of {sz b : Nat} : ∀ {xs : List (List V)} {us : List Value} {o : Nat}, (∀ x ∈ xs, x.length = sz) → RVs c xs.flatten us → (∀ j u, us[j]? = some u → c.w.cell? ⟨b, o + j, none⟩ = some u) → RR c sz b o xs
  | [], us, o, _, _, _ => trivial
  | x :: xs, us, o, hl, hr, h => by
    have hx := hl x List.mem_cons_self
    rw [List.flatten_cons] at hr
    have h1 : RVs c x (us.take sz) := by
      have := hr.take sz
      rwa [List.take_append_of_le_length (by omega), ← hx, List.take_length, hx] at this
    have h2 : RVs c xs.flatten (us.drop sz) := by
      have := hr.drop sz
      rwa [← hx, List.drop_left, hx] at this
    refine ⟨hx, RC.of h1 fun j u hj => h j u ?_, RR.of (fun y hy => hl y (List.mem_cons_of_mem _ hy)) h2 fun j u hj => ?_⟩
    · rw [List.getElem?_take] at hj
      split at hj
      · exact hj
      · cases hj
    · have := h (sz + j) u (by simpa using hj)
      rwa [Nat.add_assoc]
theorem RR.list {sz b : Nat} : ∀ {xs : List (List V)} {o : Nat}, RR c sz b o xs → ∃ us : List Value, RVs c xs.flatten us ∧ us.length = xs.length * sz ∧ ∀ j u, us[j]? = some u → c.w.cell? ⟨b, o + j, none⟩ = some u
  | [], o, _ => ⟨[], rfl, by simp, fun j u h => by simp at h⟩
  | x :: xs, o, ⟨h1, h2, h3⟩ => by
    obtain ⟨us, k1, k2, k3⟩ := h2.list
    obtain ⟨vs, g1, g2, g3⟩ := RR.list h3
    refine ⟨us ++ vs, k1.append g1, by simp [k2, g2, h1, Nat.add_mul]; omega, fun j u hj => ?_⟩
    rcases Nat.lt_or_ge j us.length with hlt | hge
    · rw [List.getElem?_append_left hlt] at hj
      exact k3 j u hj
    · rw [List.getElem?_append_right hge] at hj
      have := g3 _ u hj
      rw [k2, h1] at this hge
      rwa [show o + sz + (j - sz) = o + j by omega] at this
theorem RR.length {sz b : Nat} : ∀ {xs : List (List V)} {o : Nat}, RR c sz b o xs → ∀ x ∈ xs, x.length = sz
  | y :: ys, o, ⟨h1, _, h⟩, x, hx => by
    rcases List.mem_cons.1 hx with rfl | hx
    · exact h1
    · exact RR.length h x hx
end

section
variable {P : Program} {w : World} {Zo : Nat → Prop} {mT m : List Ob} {β : List Lc}
/-- What a name says of the object now. -/
theorem at_ptr (M : Mem w Zo m β) (A : Agree mT m) {o off : Nat} {v : Value} {ob : Ob} (hT : mT[o]? = some ob) (h : RV (cx w Zo m β) (.ptr o off) v) (hd : ob ≠ .dead) :
    m[o]? = some ob ∧ ∃ l, β[o]? = some l ∧ OK (cx w Zo m β) l ob ∧ v = .pointer (some ⟨l.b, off, none⟩) := by
  rcases A o ob hT with hm | hm
  · obtain ⟨l, h1, h2⟩ := M.at_ hm
    unfold RV at h
    rw [show (cx w Zo m β).m = m from rfl, show (cx w Zo m β).β = β from rfl, hm, h1] at h
    cases ob <;> first | exact h.elim | exact absurd rfl hd | exact ⟨hm, l, h1, h2, h⟩
  · unfold RV at h
    rw [show (cx w Zo m β).m = m from rfl, show (cx w Zo m β).β = β from rfl, hm] at h
    exact (by revert h; cases β[o]? <;> exact False.elim)
theorem at_eptr (M : Mem w Zo m β) (A : Agree mT m) {o i off sz : Nat} {v : Value} {lv : Bool} {xs : List (List V)} (hT : mT[o]? = some (.arr lv sz xs)) (h : RV (cx w Zo m β) (.eptr o i off) v) :
    m[o]? = some (.arr lv sz xs) ∧ ∃ l, β[o]? = some l ∧ OK (cx w Zo m β) l (.arr lv sz xs) ∧ v = .pointer (some ⟨l.b, i * sz + off, none⟩) := by
  rcases A o _ hT with hm | hm
  · obtain ⟨l, h1, h2⟩ := M.at_ hm
    unfold RV at h
    rw [show (cx w Zo m β).m = m from rfl, show (cx w Zo m β).β = β from rfl, hm, h1] at h
    exact ⟨hm, l, h1, h2, h⟩
  · unfold RV at h
    rw [show (cx w Zo m β).m = m from rfl, show (cx w Zo m β).β = β from rfl, hm] at h
    exact (by revert h; cases β[o]? <;> exact False.elim)
/-- A slice whose capacity is known is a slice. -/
theorem RV_arc {c : Cx} {o off len cap : Nat} {v : Value} (h : RV c (.arc o off len cap) v) : RV c (.ar o off len) v := by
  unfold RV at h ⊢
  revert h
  cases c.m[o]? with
  | none => exact fun h => h.elim
  | some ob =>
    cases c.β[o]? with
    | none => cases ob <;> first | exact fun h => h.elim | exact fun h => trivial
    | some l =>
      cases ob <;> first | exact fun h => h.elim | exact fun h => trivial | skip
      rintro ⟨h0, h1, A, e, hA⟩
      have : l.cap - off = cap := by omega
      exact ⟨h1, A, by rw [this]; exact e, fun hl => hA (by omega)⟩
theorem RV_arc_cap {c : Cx} {o off len cap sz : Nat} {lv : Bool} {xs : List (List V)} {l : Lc} {v : Value} (h : RV c (.arc o off len cap) v) (hm : c.m[o]? = some (.arr lv sz xs)) (hl : c.β[o]? = some l) : l.cap = off + cap := by
  unfold RV at h
  rw [hm, hl] at h
  exact h.1
theorem at_ar (M : Mem w Zo m β) (A : Agree mT m) {o off len sz : Nat} {v : Value} {lv : Bool} {xs : List (List V)} (hT : mT[o]? = some (.arr lv sz xs)) (h : RV (cx w Zo m β) (.ar o off len) v) :
    m[o]? = some (.arr lv sz xs) ∧ ∃ l, β[o]? = some l ∧ OK (cx w Zo m β) l (.arr lv sz xs) ∧ off + len ≤ xs.length ∧ ∃ A, v = .slice A len (l.cap - off) ∧ (off < l.cap → A = some ⟨l.b, off * sz, none⟩) := by
  rcases A o _ hT with hm | hm
  · obtain ⟨l, h1, h2⟩ := M.at_ hm
    unfold RV at h
    rw [show (cx w Zo m β).m = m from rfl, show (cx w Zo m β).β = β from rfl, hm, h1] at h
    exact ⟨hm, l, h1, h2, h⟩
  · unfold RV at h
    rw [show (cx w Zo m β).m = m from rfl, show (cx w Zo m β).β = β from rfl, hm] at h
    exact (by revert h; cases β[o]? <;> exact False.elim)
theorem at_map (M : Mem w Zo m β) (A : Agree mT m) {o : Nat} {v : Value} {lv : Bool} {ks vs : List V} (hT : mT[o]? = some (.mp lv ks vs)) (h : RV (cx w Zo m β) (.map o) v) :
    m[o]? = some (.mp lv ks vs) ∧ ∃ l, β[o]? = some l ∧ OK (cx w Zo m β) l (.mp lv ks vs) ∧ v = .map (some l.b) := by
  rcases A o _ hT with hm | hm
  · obtain ⟨l, h1, h2⟩ := M.at_ hm
    unfold RV at h
    rw [show (cx w Zo m β).m = m from rfl, show (cx w Zo m β).β = β from rfl, hm, h1] at h
    exact ⟨hm, l, h1, h2, h⟩
  · unfold RV at h
    rw [show (cx w Zo m β).m = m from rfl, show (cx w Zo m β).β = β from rfl, hm] at h
    exact (by revert h; cases β[o]? <;> exact False.elim)

/-- A variable of type t read out of cells that are known. -/
theorem run_loadVar {c : Cx} {t : TypeId} {b o : Nat} {cs : List V} {sz : Nat} {ag : Bool} (hl : lay P t = some (sz, ag)) (h : RC c b o cs) (hs : ag = true → sz ≤ cs.length) (h1 : ag = false → 0 < cs.length) :
    ∃ v, (Go.loadVar t ⟨b, o, none⟩).run P c.w = .ok v c.w ∧ RV c (if ag then .agg (cs.take sz) else cs.getD 0 .junk) v := by
  unfold Go.loadVar
  simp only [Sem.run_bind, run_ag hl, Result.andThen_ok]
  cases ag with
  | true =>
    obtain ⟨us, k1, k2, k3⟩ := (h.take sz).list
    have hlen : us.length = sz := by rw [k2, List.length_take]; have := hs rfl; omega
    have := run_loadCells_list (P := P) c.w ⟨b, o, none⟩ us (fun j v hj => by rw [add_plain]; exact k3 j v hj)
    rw [hlen] at this
    refine ⟨.agg us.toArray, ?_, ⟨_, rfl, k1⟩⟩
    simp [run_sz hl, this]
  | false =>
    have hp := h1 rfl
    obtain ⟨u, k1, k2⟩ := h.get 0 (List.getElem?_eq_getElem hp)
    refine ⟨u, ?_, ?_⟩
    · simp only [Nat.add_zero] at k1
      simp [k1]
    · rw [List.getD_eq_getElem?_getD, List.getElem?_eq_getElem hp]
      exact k2
end
end Go.Pm
