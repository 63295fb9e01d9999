/- The abstract machine: values, objects, and how they lie in the model's memory. -/
import Derived.Below
import Derived.OwnWalk
import Derived.Laws.Rows
set_option linter.unusedVariables false
namespace Go.Pm

/-- Abstract values. A slice's elements are lists of cells. -/
inductive V where
  | junk
  | int (k : IntKind) (n : Int)
  | bool (b : Bool)
  | str (s : ByteArray)
  | nil
  | e0
  | sl (sz : Nat) (xs : List (List V))
  | sptr (sz : Nat) (xs : List (List V)) (i off : Nat)
  | fptr (cs : List V) (off : Nat)
  | ar (o off len : Nat)
  | ptr (o off : Nat)
  | eptr (o i off : Nat)
  | fn (f : FuncId) (first caps : List V)
  | map (o : Nat)
  | fmap (ks vs : List V)
  | agg (cs : List V)
  | tup (vs : List V)
  | arc (o off len cap : Nat)
  deriving Inhabited

/-- Abstract objects; 'lv': it may still be written; a hole: not yet made; dead: nobody may look any more. -/
inductive Ob where
  | hole
  | dead
  | box (lv : Bool) (cs : List V)
  | arr (lv : Bool) (sz : Nat) (xs : List (List V))
  | mp (lv : Bool) (ks vs : List V)
  deriving Inhabited

/-- Where an object lies: its block, and its capacity in elements. -/
structure Lc where
  b : Nat
  cap : Nat

structure Cx where
  w : World
  Z : Nat → Prop
  m : List Ob
  β : List Lc

/-- A block that nothing will write any more. -/
def Cx.fz (c : Cx) (b : Nat) : Prop := b < c.w.heap.size ∧ ¬ c.Z b

mutual
/-- The abstract value x is the model's value v. -/
def RV (c : Cx) : V → Value → Prop
  | .junk, _ => True
  | .int k n, v => v = .int k n
  | .bool b, v => v = .bool b
  | .str s, v => v = .string s
  | .nil, v => v = .slice none 0 0
  | .e0, v => ∃ A, v = .slice A 0 0
  | .sl sz xs, v => ∃ A cp, v = .slice A xs.length cp ∧ xs.length ≤ cp ∧ xs.length < 2 ^ 63 ∧ (xs = [] ∨ ∃ b o, A = some ⟨b, o, none⟩ ∧ c.fz b ∧ RR c sz b o xs)
  | .sptr sz xs i off, v => ∃ b o, v = .pointer (some ⟨b, o + i * sz + off, none⟩) ∧ c.fz b ∧ RR c sz b o xs
  | .fptr cs off, v => ∃ b, v = .pointer (some ⟨b, off, none⟩) ∧ c.fz b ∧ RC c b 0 cs
  | .ar o off len, v => match c.m[o]?, c.β[o]? with
    | some (.arr _ sz xs), some l => off + len ≤ xs.length ∧ ∃ A, v = .slice A len (l.cap - off) ∧ (off < l.cap → A = some ⟨l.b, off * sz, none⟩)
    | some .dead, _ => True
    | _, _ => False
  | .ptr o off, v => match c.m[o]?, c.β[o]? with
    | some (.box _ _), some l => v = .pointer (some ⟨l.b, off, none⟩)
    | some .dead, _ => True
    | _, _ => False
  | .eptr o i off, v => match c.m[o]?, c.β[o]? with
    | some (.arr _ sz xs), some l => v = .pointer (some ⟨l.b, i * sz + off, none⟩)
    | some .dead, _ => True
    | _, _ => False
  | .fn f fs cs, v => ∃ us vs, v = .func (.func f) us vs ∧ RVs c fs us.toList ∧ RVs c cs vs.toList
  | .map o, v => match c.m[o]?, c.β[o]? with
    | some (.mp _ _ _), some l => v = .map (some l.b)
    | some .dead, _ => True
    | _, _ => False
  | .fmap ks vs, v => ∃ b es n, v = .map (some b) ∧ c.fz b ∧ c.w.heap[b]? = some (.map es n) ∧ RVs c ks (es.toList.map (·.key)) ∧ RVs c vs (es.toList.map (·.val))
  | .agg cs, v => ∃ us, v = .agg us ∧ RVs c cs us.toList
  | .tup cs, v => ∃ us, v = .tuple us ∧ RVs c cs us.toList
  | .arc o off len cap, v => match c.m[o]?, c.β[o]? with
    | some (.arr _ sz xs), some l => l.cap = off + cap ∧ off + len ≤ xs.length ∧ ∃ A, v = .slice A len cap ∧ (0 < cap → A = some ⟨l.b, off * sz, none⟩)
    | some .dead, _ => True
    | _, _ => False
def RVs (c : Cx) : List V → List Value → Prop
  | [], us => us = []
  | x :: xs, us => ∃ u us', us = u :: us' ∧ RV c x u ∧ RVs c xs us'
/-- The cells from offset o of block b on. -/
def RC (c : Cx) (b o : Nat) : List V → Prop
  | [] => True
  | x :: xs => (∃ u, c.w.cell? ⟨b, o, none⟩ = some u ∧ RV c x u) ∧ RC c b (o + 1) xs
/-- The elements, of sz cells each, from offset o of block b on. -/
def RR (c : Cx) (sz b o : Nat) : List (List V) → Prop
  | [] => True
  | x :: xs => x.length = sz ∧ RC c b o x ∧ RR c sz b (o + sz) xs
end

mutual
/-- The objects that x names satisfy ok. -/
def Ref (ok : Nat → Prop) : V → Prop
  | .ar o _ _ => ok o
  | .ptr o _ => ok o
  | .eptr o _ _ => ok o
  | .map o => ok o
  | .sl _ xs => Refss ok xs
  | .sptr _ xs _ _ => Refss ok xs
  | .fptr cs _ => Refs ok cs
  | .fn _ fs cs => Refs ok fs ∧ Refs ok cs
  | .fmap ks vs => Refs ok ks ∧ Refs ok vs
  | .agg cs => Refs ok cs
  | .tup cs => Refs ok cs
  | .arc o _ _ _ => ok o
  | _ => True
def Refs (ok : Nat → Prop) : List V → Prop
  | [] => True
  | x :: xs => Ref ok x ∧ Refs ok xs
def Refss (ok : Nat → Prop) : List (List V) → Prop
  | [] => True
  | x :: xs => Refs ok x ∧ Refss ok xs
end

mutual
/-- Objects renumbered. -/
def V.ren (ρ : Nat → Nat) : V → V
  | .ar o off len => .ar (ρ o) off len
  | .ptr o off => .ptr (ρ o) off
  | .eptr o i off => .eptr (ρ o) i off
  | .map o => .map (ρ o)
  | .sl sz xs => .sl sz (renss ρ xs)
  | .sptr sz xs i off => .sptr sz (renss ρ xs) i off
  | .fptr cs off => .fptr (rens ρ cs) off
  | .fn f fs cs => .fn f (rens ρ fs) (rens ρ cs)
  | .fmap ks vs => .fmap (rens ρ ks) (rens ρ vs)
  | .agg cs => .agg (rens ρ cs)
  | .tup cs => .tup (rens ρ cs)
  | .arc o off len cap => .arc (ρ o) off len cap
  | .junk => .junk
  | .int k n => .int k n
  | .bool b => .bool b
  | .str s => .str s
  | .nil => .nil
  | .e0 => .e0
def rens (ρ : Nat → Nat) : List V → List V
  | [] => []
  | x :: xs => x.ren ρ :: rens ρ xs
def renss (ρ : Nat → Nat) : List (List V) → List (List V)
  | [] => []
  | x :: xs => rens ρ x :: renss ρ xs
end
theorem rens_length (ρ : Nat → Nat) : ∀ xs : List V, (rens ρ xs).length = xs.length
  | [] => rfl
  | x :: xs => by simp [rens, rens_length ρ xs]
theorem renss_length (ρ : Nat → Nat) : ∀ xs : List (List V), (renss ρ xs).length = xs.length
  | [] => rfl
  | x :: xs => by simp [renss, renss_length ρ xs]
mutual
theorem V.ren_id : ∀ x : V, x.ren (fun o => o) = x
  | .ar o off len => rfl
  | .ptr o off => rfl
  | .eptr o i off => rfl
  | .map o => rfl
  | .sl sz xs => by simp [V.ren, renss_id xs]
  | .sptr sz xs i off => by simp [V.ren, renss_id xs]
  | .fptr cs off => by simp [V.ren, rens_id cs]
  | .fn f fs cs => by simp [V.ren, rens_id fs, rens_id cs]
  | .fmap ks vs => by simp [V.ren, rens_id ks, rens_id vs]
  | .agg cs => by simp [V.ren, rens_id cs]
  | .tup cs => by simp [V.ren, rens_id cs]
  | .arc o off len cap => rfl
  | .junk => rfl
  | .int k n => rfl
  | .bool b => rfl
  | .str s => rfl
  | .nil => rfl
  | .e0 => rfl
theorem rens_id : ∀ xs : List V, rens (fun o => o) xs = xs
  | [] => rfl
  | x :: xs => by simp [rens, V.ren_id x, rens_id xs]
theorem renss_id : ∀ xs : List (List V), renss (fun o => o) xs = xs
  | [] => rfl
  | x :: xs => by simp [renss, rens_id x, renss_id xs]
end
mutual
theorem V.ren_pure {ρ : Nat → Nat} : ∀ x : V, Ref (fun _ => False) x → x.ren ρ = x
  | .ar o off len, h => h.elim
  | .ptr o off, h => h.elim
  | .eptr o i off, h => h.elim
  | .map o, h => h.elim
  | .sl sz xs, h => by simp [V.ren, renss_pure xs h]
  | .sptr sz xs i off, h => by simp [V.ren, renss_pure xs h]
  | .fptr cs off, h => by simp [V.ren, rens_pure cs h]
  | .fn f fs cs, h => by simp [V.ren, rens_pure fs h.1, rens_pure cs h.2]
  | .fmap ks vs, h => by simp [V.ren, rens_pure ks h.1, rens_pure vs h.2]
  | .agg cs, h => by simp [V.ren, rens_pure cs h]
  | .tup cs, h => by simp [V.ren, rens_pure cs h]
  | .arc o off len cap, h => h.elim
  | .junk, _ => rfl
  | .int k n, _ => rfl
  | .bool b, _ => rfl
  | .str s, _ => rfl
  | .nil, _ => rfl
  | .e0, _ => rfl
theorem rens_pure {ρ : Nat → Nat} : ∀ xs : List V, Refs (fun _ => False) xs → rens ρ xs = xs
  | [], _ => rfl
  | x :: xs, h => by simp [rens, V.ren_pure x h.1, rens_pure xs h.2]
theorem renss_pure {ρ : Nat → Nat} : ∀ xs : List (List V), Refss (fun _ => False) xs → renss ρ xs = xs
  | [], _ => rfl
  | x :: xs, h => by simp [renss, rens_pure x h.1, renss_pure xs h.2]
end
mutual
theorem Ref.mono {p q : Nat → Prop} (hpq : ∀ o, p o → q o) : ∀ x : V, Ref p x → Ref q x
  | .ar o off len, h => hpq _ h
  | .ptr o off, h => hpq _ h
  | .eptr o i off, h => hpq _ h
  | .map o, h => hpq _ h
  | .sl sz xs, h => Refss.mono hpq xs h
  | .sptr sz xs i off, h => Refss.mono hpq xs h
  | .fptr cs off, h => Refs.mono hpq cs h
  | .fn f fs cs, h => ⟨Refs.mono hpq fs h.1, Refs.mono hpq cs h.2⟩
  | .fmap ks vs, h => ⟨Refs.mono hpq ks h.1, Refs.mono hpq vs h.2⟩
  | .agg cs, h => Refs.mono hpq cs h
  | .tup cs, h => Refs.mono hpq cs h
  | .arc o off len cap, h => hpq _ h
  | .junk, _ => trivial
  | .int k n, _ => trivial
  | .bool b, _ => trivial
  | .str s, _ => trivial
  | .nil, _ => trivial
  | .e0, _ => trivial
theorem Refs.mono {p q : Nat → Prop} (hpq : ∀ o, p o → q o) : ∀ xs : List V, Refs p xs → Refs q xs
  | [], _ => trivial
  | x :: xs, h => ⟨Ref.mono hpq x h.1, Refs.mono hpq xs h.2⟩
theorem Refss.mono {p q : Nat → Prop} (hpq : ∀ o, p o → q o) : ∀ xs : List (List V), Refss p xs → Refss q xs
  | [], _ => trivial
  | x :: xs, h => ⟨Refs.mono hpq x h.1, Refss.mono hpq xs h.2⟩
end
mutual
theorem Ref.all : ∀ x : V, Ref (fun _ => True) x
  | .ar o off len => trivial
  | .ptr o off => trivial
  | .eptr o i off => trivial
  | .map o => trivial
  | .sl sz xs => Refss.all xs
  | .sptr sz xs i off => Refss.all xs
  | .fptr cs off => Refs.all cs
  | .fn f fs cs => ⟨Refs.all fs, Refs.all cs⟩
  | .fmap ks vs => ⟨Refs.all ks, Refs.all vs⟩
  | .agg cs => Refs.all cs
  | .tup cs => Refs.all cs
  | .arc o off len cap => trivial
  | .junk => trivial
  | .int k n => trivial
  | .bool b => trivial
  | .str s => trivial
  | .nil => trivial
  | .e0 => trivial
theorem Refs.all : ∀ xs : List V, Refs (fun _ => True) xs
  | [] => trivial
  | x :: xs => ⟨Ref.all x, Refs.all xs⟩
theorem Refss.all : ∀ xs : List (List V), Refss (fun _ => True) xs
  | [] => trivial
  | x :: xs => ⟨Refs.all x, Refss.all xs⟩
end
theorem Refs.mem {p : Nat → Prop} : ∀ {xs : List V} {x : V}, Refs p xs → x ∈ xs → Ref p x
  | y :: ys, x, h, hx => by
    rcases List.mem_cons.1 hx with rfl | hx
    · exact h.1
    · exact Refs.mem h.2 hx
theorem Refs.of {p : Nat → Prop} : ∀ {xs : List V}, (∀ x ∈ xs, Ref p x) → Refs p xs
  | [], _ => trivial
  | y :: ys, h => ⟨h y List.mem_cons_self, Refs.of fun x hx => h x (List.mem_cons_of_mem _ hx)⟩
theorem Refss.mem {p : Nat → Prop} : ∀ {xs : List (List V)} {x : List V}, Refss p xs → x ∈ xs → Refs p x
  | y :: ys, x, h, hx => by
    rcases List.mem_cons.1 hx with rfl | hx
    · exact h.1
    · exact Refss.mem h.2 hx
theorem Refss.of {p : Nat → Prop} : ∀ {xs : List (List V)}, (∀ x ∈ xs, Refs p x) → Refss p xs
  | [], _ => trivial
  | y :: ys, h => ⟨h y List.mem_cons_self, Refss.of fun x hx => h x (List.mem_cons_of_mem _ hx)⟩

/-- What an object may become, without harm to those who name it. -/
def obLe : Option Ob → Option Lc → Option Ob → Option Lc → Prop
  | some (.arr _ sz xs), some l, x, y => x = some .dead ∨ ∃ lv xs', x = some (.arr lv sz xs') ∧ y = some l ∧ xs.length ≤ xs'.length
  | some (.box _ _), some l, x, y => x = some .dead ∨ ∃ lv cs l', x = some (.box lv cs) ∧ y = some l' ∧ l'.b = l.b
  | some (.mp _ _ _), some l, x, y => x = some .dead ∨ ∃ lv ks vs l', x = some (.mp lv ks vs) ∧ y = some l' ∧ l'.b = l.b
  | some .dead, _, x, _ => x = some .dead
  | _, _, _, _ => True
theorem obLe_refl (x : Option Ob) (y : Option Lc) : obLe x y x y := by
  unfold obLe
  split
  · exact .inr ⟨_, _, rfl, rfl, Nat.le_refl _⟩
  · exact .inr ⟨_, _, _, rfl, rfl, rfl⟩
  · exact .inr ⟨_, _, _, _, rfl, rfl, rfl⟩
  · rfl
  · trivial

structure Tr (c c' : Cx) (ρ : Nat → Nat) (ok : Nat → Prop) : Prop where
  fz : ∀ b, c.fz b → c'.fz b ∧ c'.w.heap[b]? = c.w.heap[b]?
  ob : ∀ o, ok o → obLe c.m[o]? c.β[o]? c'.m[ρ o]? c'.β[ρ o]?

theorem cell_of_heap {w w' : World} {b o : Nat} (h : w'.heap[b]? = w.heap[b]?) : w'.cell? ⟨b, o, none⟩ = w.cell? ⟨b, o, none⟩ := World.cell?_of_block (a := ⟨b, o, none⟩) h

section
variable {c c' : Cx} {ρ : Nat → Nat} {ok : Nat → Prop}
mutual
theorem RV.tr (h : Tr c c' ρ ok) : ∀ (x : V) (v : Value), Ref ok x → RV c x v → RV c' (x.ren ρ) v
  | .junk, v, _, _ => trivial
  | .int k n, v, _, r => r
  | .bool b, v, _, r => r
  | .str s, v, _, r => r
  | .nil, v, _, r => r
  | .e0, v, _, r => r
  | .sl sz xs, v, k, ⟨A, cp, e, h1, h2, h3⟩ => by
    refine ⟨A, cp, by rw [renss_length]; exact e, by rw [renss_length]; exact h1, by rw [renss_length]; exact h2, ?_⟩
    rcases h3 with rfl | ⟨b, o, ha, hf, hr⟩
    · exact .inl rfl
    · exact .inr ⟨b, o, ha, (h.fz b hf).1, RR.tr h sz b (h.fz b hf).2 xs o k hr⟩
  | .sptr sz xs i off, v, k, ⟨b, o, e, hf, hr⟩ => ⟨b, o, e, (h.fz b hf).1, RR.tr h sz b (h.fz b hf).2 xs o k hr⟩
  | .fptr cs off, v, k, ⟨b, e, hf, hr⟩ => ⟨b, e, (h.fz b hf).1, RC.tr h b (h.fz b hf).2 cs 0 k hr⟩
  | .ar o off len, v, k, r => by
    have ho := h.ob o k
    unfold RV at r
    unfold V.ren RV
    revert r ho
    cases h1 : c.m[o]? with
    | none => exact fun _ r => r.elim
    | some ob =>
      cases h2 : c.β[o]? with
      | none => cases ob <;> (intro ho r; first | exact r.elim | (unfold obLe at ho; rw [ho]; trivial))
      | some l =>
        cases ob <;> (intro ho r; first | exact r.elim | skip)
        · unfold obLe at ho
          rw [ho]; trivial
        · obtain ⟨q, A, e, hA⟩ := r
          unfold obLe at ho
          rcases ho with ho | ⟨lv, xs', ho, hy, hl⟩
          · rw [ho]; trivial
          · rw [ho, hy]
            exact ⟨by omega, A, e, hA⟩
  | .arc o off len cap, v, k, r => by
    have ho := h.ob o k
    unfold RV at r
    unfold V.ren RV
    revert r ho
    cases h1 : c.m[o]? with
    | none => exact fun _ r => r.elim
    | some ob =>
      cases h2 : c.β[o]? with
      | none => cases ob <;> (intro ho r; first | exact r.elim | (unfold obLe at ho; rw [ho]; trivial))
      | some l =>
        cases ob <;> (intro ho r; first | exact r.elim | skip)
        · unfold obLe at ho
          rw [ho]; trivial
        · obtain ⟨q0, q, A, e, hA⟩ := r
          unfold obLe at ho
          rcases ho with ho | ⟨lv, xs', ho, hy, hl⟩
          · rw [ho]; trivial
          · rw [ho, hy]
            exact ⟨q0, by omega, A, e, hA⟩
  | .ptr o off, v, k, r => by
    have ho := h.ob o k
    unfold RV at r
    unfold V.ren RV
    revert r ho
    cases h1 : c.m[o]? with
    | none => exact fun _ r => r.elim
    | some ob =>
      cases h2 : c.β[o]? with
      | none => cases ob <;> (intro ho r; first | exact r.elim | (unfold obLe at ho; rw [ho]; trivial))
      | some l =>
        cases ob <;> (intro ho r; first | exact r.elim | skip)
        · unfold obLe at ho
          rw [ho]; trivial
        · unfold obLe at ho
          rcases ho with ho | ⟨lv, cs, l', ho, hy, hb⟩
          · rw [ho]; trivial
          · rw [ho, hy]
            show v = .pointer (some ⟨l'.b, off, none⟩)
            rw [hb]; exact r
  | .eptr o i off, v, k, r => by
    have ho := h.ob o k
    unfold RV at r
    unfold V.ren RV
    revert r ho
    cases h1 : c.m[o]? with
    | none => exact fun _ r => r.elim
    | some ob =>
      cases h2 : c.β[o]? with
      | none => cases ob <;> (intro ho r; first | exact r.elim | (unfold obLe at ho; rw [ho]; trivial))
      | some l =>
        cases ob <;> (intro ho r; first | exact r.elim | skip)
        · unfold obLe at ho
          rw [ho]; trivial
        · unfold obLe at ho
          rcases ho with ho | ⟨lv, cs, ho, hy, hl⟩
          · rw [ho]; trivial
          · rw [ho, hy]
            exact r
  | .map o, v, k, r => by
    have ho := h.ob o k
    unfold RV at r
    unfold V.ren RV
    revert r ho
    cases h1 : c.m[o]? with
    | none => exact fun _ r => r.elim
    | some ob =>
      cases h2 : c.β[o]? with
      | none => cases ob <;> (intro ho r; first | exact r.elim | (unfold obLe at ho; rw [ho]; trivial))
      | some l =>
        cases ob <;> (intro ho r; first | exact r.elim | skip)
        · unfold obLe at ho
          rw [ho]; trivial
        · unfold obLe at ho
          rcases ho with ho | ⟨lv, ks, vs, l', ho, hy, hb⟩
          · rw [ho]; trivial
          · rw [ho, hy]
            show v = .map (some l'.b)
            rw [hb]; exact r
  | .fn f fs cs, v, k, ⟨us, vs, e, h1, h2⟩ => ⟨us, vs, e, RVs.tr h fs us.toList k.1 h1, RVs.tr h cs vs.toList k.2 h2⟩
  | .fmap ks vs, v, k, ⟨b, es, n, e, hf, hh, h1, h2⟩ => ⟨b, es, n, e, (h.fz b hf).1, (h.fz b hf).2.trans hh, RVs.tr h ks _ k.1 h1, RVs.tr h vs _ k.2 h2⟩
  | .agg cs, v, k, ⟨us, e, r⟩ => ⟨us, e, RVs.tr h cs us.toList k r⟩
  | .tup cs, v, k, ⟨us, e, r⟩ => ⟨us, e, RVs.tr h cs us.toList k r⟩
theorem RVs.tr (h : Tr c c' ρ ok) : ∀ (xs : List V) (us : List Value), Refs ok xs → RVs c xs us → RVs c' (rens ρ xs) us
  | [], us, _, r => r
  | x :: xs, us, k, ⟨u, us', e, r, rs⟩ => ⟨u, us', e, RV.tr h x u k.1 r, RVs.tr h xs us' k.2 rs⟩
theorem RC.tr (h : Tr c c' ρ ok) (b : Nat) (hb : c'.w.heap[b]? = c.w.heap[b]?) : ∀ (xs : List V) (o : Nat), Refs ok xs → RC c b o xs → RC c' b o (rens ρ xs)
  | [], o, _, _ => trivial
  | x :: xs, o, k, ⟨⟨u, e, r⟩, rs⟩ => ⟨⟨u, (cell_of_heap hb).trans e, RV.tr h x u k.1 r⟩, RC.tr h b hb xs (o + 1) k.2 rs⟩
theorem RR.tr (h : Tr c c' ρ ok) (sz b : Nat) (hb : c'.w.heap[b]? = c.w.heap[b]?) : ∀ (xs : List (List V)) (o : Nat), Refss ok xs → RR c sz b o xs → RR c' sz b o (renss ρ xs)
  | [], o, _, _ => trivial
  | x :: xs, o, k, ⟨e, r, rs⟩ => ⟨by rw [rens_length]; exact e, RC.tr h b hb x o k.1 r, RR.tr h sz b hb xs (o + sz) k.2 rs⟩
end
end

/-- No renumbering. -/
def Cx.le (c c' : Cx) : Prop := Tr c c' (fun o => o) (fun _ => True)
theorem Cx.le.refl (c : Cx) : c.le c := ⟨fun b h => ⟨h, rfl⟩, fun o _ => obLe_refl _ _⟩
theorem RV.mono {c c' : Cx} (h : c.le c') {x : V} {v : Value} (r : RV c x v) : RV c' x v := by
  have := RV.tr h x v (Ref.all x) r
  rwa [V.ren_id] at this
theorem RVs.mono {c c' : Cx} (h : c.le c') {x : List V} {v : List Value} (r : RVs c x v) : RVs c' x v := by
  have := RVs.tr h x v (Refs.all x) r
  rwa [rens_id] at this
theorem RC.mono {c c' : Cx} (h : c.le c') {b o : Nat} {x : List V} (hb : c'.w.heap[b]? = c.w.heap[b]?) (r : RC c b o x) : RC c' b o x := by
  have := RC.tr h b hb x o (Refs.all x) r
  rwa [rens_id] at this
theorem RR.mono {c c' : Cx} (h : c.le c') {sz b o : Nat} {x : List (List V)} (hb : c'.w.heap[b]? = c.w.heap[b]?) (r : RR c sz b o x) : RR c' sz b o x := by
  have := RR.tr h sz b hb x o (Refss.all x) r
  rwa [renss_id] at this
end Go.Pm
