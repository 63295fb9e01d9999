/- The abstract machine: memory, states, and how they move. -/
import Derived.Test.YtkdaijcdddomjaaPm1
set_option linter.unusedVariables false
namespace Go.Pm
open Go.RowKit

/-- The block of an object that may be written. -/
def Ob.blk : Ob → Lc → Option Nat
  | .box true _, l => some l.b
  | .arr true _ _, l => if l.cap = 0 then none else some l.b
  | .mp true _ _, l => some l.b
  | _, _ => none
def liveAt (m : List Ob) (β : List Lc) (b : Nat) : Prop := ∃ (o : Nat) (ob : Ob) (l : Lc), m[o]? = some ob ∧ β[o]? = some l ∧ ob.blk l = some b
def cx (w : World) (Zo : Nat → Prop) (m : List Ob) (β : List Lc) : Cx := ⟨w, fun b => Zo b ∨ liveAt m β b, m, β⟩
/-- None of the first n cells is marked, nor what is behind them. -/
def NoFr (n : Nat) (fr : Nat × Nat) : Prop := ∀ j, j < n + 1 → ¬ (fr.1 ≤ j ∧ j < fr.2)
theorem NoFr.zero (n : Nat) : NoFr n (0, 0) := fun j _ h => by have := h.2; simp at this
def OK (c : Cx) (l : Lc) : Ob → Prop
  | .hole => True
  | .dead => True
  | .box lv cs => ∃ us e fr, c.w.heap[l.b]? = some (.cells us e fr) ∧ us.size = cs.length ∧ NoFr us.size fr ∧ RC c l.b 0 cs ∧ (lv = true ∨ c.fz l.b)
  | .arr lv sz xs => xs.length ≤ l.cap ∧ l.cap < 2 ^ 63 ∧ 0 < sz ∧ (l.cap = 0 ∨ ∃ us e fr, c.w.heap[l.b]? = some (.cells us e fr) ∧ us.size = l.cap * sz ∧ NoFr us.size fr ∧ RR c sz l.b 0 xs ∧ (lv = true ∨ c.fz l.b))
  | .mp lv ks vs => ∃ es n, c.w.heap[l.b]? = some (.map es n) ∧ RVs c ks (es.toList.map (·.key)) ∧ RVs c vs (es.toList.map (·.val)) ∧ (lv = true ∨ c.fz l.b)
theorem OK.mono {c c' : Cx} (h : c.le c') {l : Lc} {ob : Ob} (hb : ∀ b, ob.blk l = some b → c'.w.heap[b]? = c.w.heap[b]?) (k : OK c l ob) : OK c' l ob := by
  have hx : ∀ lv : Bool, (lv = true → c'.w.heap[l.b]? = c.w.heap[l.b]?) → (lv = true ∨ c.fz l.b) → c'.w.heap[l.b]? = c.w.heap[l.b]? ∧ (lv = true ∨ c'.fz l.b) := by
    intro lv h1 h2
    rcases h2 with h2 | h2
    · exact ⟨h1 h2, .inl h2⟩
    · exact ⟨(h.fz _ h2).2, .inr (h.fz _ h2).1⟩
  cases ob with
  | hole => trivial
  | dead => trivial
  | box lv cs =>
    obtain ⟨us, e, fr, h1, h2, h3, h4, h5⟩ := k
    obtain ⟨g1, g2⟩ := hx lv (fun q => hb _ (by subst q; rfl)) h5
    exact ⟨us, e, fr, g1.trans h1, h2, h3, h4.mono h g1, g2⟩
  | arr lv sz xs =>
    obtain ⟨h1, h2, h3, h4⟩ := k
    refine ⟨h1, h2, h3, ?_⟩
    by_cases hc : l.cap = 0
    · exact .inl hc
    · rcases h4 with h4 | ⟨us, e, fr, g1, g2, g3, g4, g5⟩
      · exact .inl h4
      · obtain ⟨q1, q2⟩ := hx lv (fun q => hb _ (by subst q; simp [Ob.blk, hc])) g5
        exact .inr ⟨us, e, fr, q1.trans g1, g2, g3, g4.mono h q1, q2⟩
  | mp lv ks vs =>
    obtain ⟨es, n, h1, h2, h3, h4⟩ := k
    obtain ⟨g1, g2⟩ := hx lv (fun q => hb _ (by subst q; rfl)) h4
    exact ⟨es, n, g1.trans h1, h2.mono h, h3.mono h, g2⟩

structure Mem (w : World) (Zo : Nat → Prop) (m : List Ob) (β : List Lc) : Prop where
  len : β.length = m.length
  ok : ∀ (o : Nat) (ob : Ob) (l : Lc), m[o]? = some ob → β[o]? = some l → OK (cx w Zo m β) l ob
  sep : ∀ (o o' : Nat) (ob ob' : Ob) (l l' : Lc) (b : Nat), m[o]? = some ob → m[o']? = some ob' → β[o]? = some l → β[o']? = some l' → ob.blk l = some b → ob'.blk l' = some b → o = o'
  out : ∀ b, liveAt m β b → ¬ Zo b
  zlt : ∀ b, Zo b → b < w.heap.size
theorem blk_lt {c : Cx} {l : Lc} {ob : Ob} {b : Nat} (k : OK c l ob) (h : ob.blk l = some b) : l.b = b ∧ b < c.w.heap.size := by
  cases ob with
  | hole => simp [Ob.blk] at h
  | dead => simp [Ob.blk] at h
  | box lv cs =>
    cases lv
    · simp [Ob.blk] at h
    · simp only [Ob.blk, Option.some.injEq] at h
      obtain ⟨us, e, fr, h1, _⟩ := k
      subst h
      exact ⟨rfl, (Array.getElem?_eq_some_iff.1 h1).1⟩
  | arr lv sz xs =>
    cases lv
    · simp [Ob.blk] at h
    · simp only [Ob.blk] at h
      split at h
      · cases h
      · rename_i hc
        simp only [Option.some.injEq] at h
        obtain ⟨_, _, _, h4⟩ := k
        rcases h4 with h4 | ⟨us, e, fr, h1, _⟩
        · exact absurd h4 hc
        · subst h
          exact ⟨rfl, (Array.getElem?_eq_some_iff.1 h1).1⟩
  | mp lv ks vs =>
    cases lv
    · simp [Ob.blk] at h
    · simp only [Ob.blk, Option.some.injEq] at h
      obtain ⟨es, n, h1, _⟩ := k
      subst h
      exact ⟨rfl, (Array.getElem?_eq_some_iff.1 h1).1⟩
theorem Mem.live_lt {w : World} {Zo : Nat → Prop} {m : List Ob} {β : List Lc} (h : Mem w Zo m β) {b : Nat} (k : liveAt m β b) : b < w.heap.size := by
  obtain ⟨o, ob, l, h1, h2, h3⟩ := k
  exact (blk_lt (h.ok o ob l h1 h2) h3).2
theorem Mem.at_ {w : World} {Zo : Nat → Prop} {m : List Ob} {β : List Lc} (h : Mem w Zo m β) {o : Nat} {ob : Ob} (hm : m[o]? = some ob) : ∃ l, β[o]? = some l ∧ OK (cx w Zo m β) l ob := by
  have hl : o < β.length := by rw [h.len]; exact (List.getElem?_eq_some_iff.1 hm).1
  exact ⟨β[o], List.getElem?_eq_getElem hl, h.ok o ob _ hm (List.getElem?_eq_getElem hl)⟩

/-- What a call leaves of the world that it found: all but E's blocks. -/
structure Frame (E : Nat → Prop) (w0 w : World) : Prop where
  os : w.os = w0.os
  tape : w.tape = w0.tape
  output : w.output = w0.output
  size : w0.heap.size ≤ w.heap.size
  block : ∀ b, b < w0.heap.size → ¬ E b → w.heap[b]? = w0.heap[b]?
theorem Frame.refl (E : Nat → Prop) (w : World) : Frame E w w := ⟨rfl, rfl, rfl, Nat.le_refl _, fun _ _ _ => rfl⟩
theorem Frame.trans {E : Nat → Prop} {a b c : World} (h : Frame E a b) (k : Frame E b c) : Frame E a c :=
  ⟨k.os.trans h.os, k.tape.trans h.tape, k.output.trans h.output, Nat.le_trans h.size k.size, fun i hi hE => (k.block i (Nat.lt_of_lt_of_le hi h.size) hE).trans (h.block i hi hE)⟩
theorem Frame.mono {E E' : Nat → Prop} {a b : World} (h : Frame E a b) (hE : ∀ i, E i → E' i) : Frame E' a b := ⟨h.os, h.tape, h.output, h.size, fun i hi k => h.block i hi fun q => k (hE i q)⟩
/-- The world has grown; nothing that was there has turned. -/
def Grow (w w' : World) : Prop := Frame (fun _ => False) w w'
theorem Grow.block {w w' : World} (h : Grow w w') (b : Nat) (hb : b < w.heap.size) : w'.heap[b]? = w.heap[b]? := Frame.block h b hb (fun q => q)
theorem Grow.refl (w : World) : Grow w w := Frame.refl _ w
theorem Grow.alloc (w : World) (o : Obj) : Grow w (w.alloc o) := ⟨rfl, rfl, rfl, by simp, fun b hb _ => Below.heap_alloc w o b hb⟩
theorem Grow.drew (w : World) : Grow w w.drew := ⟨rfl, rfl, rfl, Nat.le_refl _, fun _ _ _ => rfl⟩
theorem Grow.trans {a b c : World} (h : Grow a b) (k : Grow b c) : Grow a c := Frame.trans h k

section
variable {w w' : World} {Zo : Nat → Prop} {m : List Ob} {β : List Lc}
theorem cx_le_grow (h : Grow w w') : (cx w Zo m β).le (cx w' Zo m β) :=
  ⟨fun b hb => ⟨⟨Nat.lt_of_lt_of_le hb.1 h.size, hb.2⟩, h.block b hb.1⟩, fun o _ => obLe_refl _ _⟩
theorem Mem.grow (M : Mem w Zo m β) (h : Grow w w') : Mem w' Zo m β :=
  ⟨M.len, fun o ob l h1 h2 => (M.ok o ob l h1 h2).mono (cx_le_grow h) (fun b hb => h.block b (blk_lt (M.ok o ob l h1 h2) hb).2), M.sep, M.out, fun b hb => Nat.lt_of_lt_of_le (M.zlt b hb) h.size⟩
end

theorem getElem?_append_one {α : Type} (l : List α) (x y : α) (o : Nat) (h : (l ++ [x])[o]? = some y) : l[o]? = some y ∨ (o = l.length ∧ y = x) := by
  rcases Nat.lt_trichotomy o l.length with h1 | h1 | h1
  · rw [List.getElem?_append_left h1] at h; exact .inl h
  · subst h1; simp at h; exact .inr ⟨rfl, h.symm⟩
  · rw [List.getElem?_append_right (by omega)] at h
    rw [List.getElem?_eq_none (by simp; omega)] at h
    cases h
theorem getElem?_append_old {α : Type} {l : List α} {y : α} {o : Nat} (h : l[o]? = some y) (x : List α) : (l ++ x)[o]? = some y := by
  rw [List.getElem?_append_left (List.getElem?_eq_some_iff.1 h).1]; exact h
theorem getElem?_append_holes {α : Type} {l : List α} {y x : α} {o n : Nat} (h : (l ++ List.replicate n x)[o]? = some y) : l[o]? = some y ∨ (l.length ≤ o ∧ y = x) := by
  rcases Nat.lt_or_ge o l.length with h1 | h1
  · rw [List.getElem?_append_left h1] at h; exact .inl h
  · rw [List.getElem?_append_right h1, List.getElem?_replicate] at h
    split at h
    · simp at h; exact .inr ⟨h1, h.symm⟩
    · cases h
theorem obLe_append {m m1 : List Ob} {β β1 : List Lc} (hl : β.length = m.length) (o : Nat) : obLe m[o]? β[o]? (m ++ m1)[o]? (β ++ β1)[o]? := by
  rcases Nat.lt_or_ge o m.length with h | h
  · rw [List.getElem?_append_left h, List.getElem?_append_left (by omega)]
    exact obLe_refl _ _
  · rw [List.getElem?_eq_none (by omega : m.length ≤ o)]
    unfold obLe
    split <;> simp_all
section
variable {w w' : World} {Zo : Nat → Prop} {m : List Ob} {β : List Lc}
/-- Room for objects that are still to be made. -/
theorem Mem.holes (M : Mem w Zo m β) (n : Nat) : Mem w Zo (m ++ List.replicate n .hole) (β ++ List.replicate n ⟨0, 0⟩) ∧ (cx w Zo m β).le (cx w Zo (m ++ List.replicate n .hole) (β ++ List.replicate n ⟨0, 0⟩)) := by
  have g : ∀ (o : Nat) (ob : Ob) (l : Lc) (b : Nat), (m ++ List.replicate n .hole)[o]? = some ob → (β ++ List.replicate n ⟨0, 0⟩)[o]? = some l → ob.blk l = some b → m[o]? = some ob ∧ β[o]? = some l := by
    intro o ob l b g1 g2 g3
    rcases getElem?_append_holes g1 with g1 | ⟨_, rfl⟩
    · have h1 := (List.getElem?_eq_some_iff.1 g1).1
      rw [List.getElem?_append_left (by rw [M.len]; exact h1)] at g2
      exact ⟨g1, g2⟩
    · simp [Ob.blk] at g3
  have hlive : ∀ b, liveAt (m ++ List.replicate n .hole) (β ++ List.replicate n ⟨0, 0⟩) b → liveAt m β b := by
    rintro b ⟨o, ob, l, h1, h2, h3⟩
    obtain ⟨q1, q2⟩ := g o ob l b h1 h2 h3
    exact ⟨o, ob, l, q1, q2, h3⟩
  have hle : (cx w Zo m β).le (cx w Zo (m ++ List.replicate n .hole) (β ++ List.replicate n ⟨0, 0⟩)) :=
    ⟨fun b hf => ⟨⟨hf.1, fun hz => hf.2 (hz.imp id (hlive b))⟩, rfl⟩, fun o _ => obLe_append M.len o⟩
  refine ⟨⟨by simp [M.len], ?_, ?_, fun b h => M.out b (hlive b h), M.zlt⟩, hle⟩
  · intro o ob l h1 h2
    rcases getElem?_append_holes h1 with h1 | ⟨_, rfl⟩
    · have h3 := (List.getElem?_eq_some_iff.1 h1).1
      rw [List.getElem?_append_left (by rw [M.len]; exact h3)] at h2
      exact (M.ok o ob l h1 h2).mono hle (fun b hb => rfl)
    · trivial
  · intro o o' ob ob' l l' b h1 h2 h3 h4 h5 h6
    obtain ⟨a1, a2⟩ := g _ _ _ _ h1 h3 h5
    obtain ⟨b1, b2⟩ := g _ _ _ _ h2 h4 h6
    exact M.sep _ _ _ _ _ _ b a1 b1 a2 b2 h5 h6
end

theorem getElem?_set_some {α : Type} {l : List α} {i j : Nat} {x y : α} (h : (l.set i x)[j]? = some y) : (j = i ∧ y = x ∧ i < l.length) ∨ (j ≠ i ∧ l[j]? = some y) := by
  rw [List.getElem?_set] at h
  split at h
  · rename_i e
    subst e
    split at h
    · rename_i hl; simp at h; exact .inl ⟨rfl, h.symm, hl⟩
    · cases h
  · rename_i e; exact .inr ⟨fun q => e q.symm, h⟩
section
variable {w w' : World} {Zo : Nat → Prop} {m : List Ob} {β : List Lc} {ob ob' : Ob} {l : Lc} {o : Nat}
theorem liveAt_set {b : Nat} (h : liveAt (m.set o ob') β b) : (∃ l, β[o]? = some l ∧ ob'.blk l = some b) ∨ (∃ o1 ob1 l1, o1 ≠ o ∧ m[o1]? = some ob1 ∧ β[o1]? = some l1 ∧ ob1.blk l1 = some b) := by
  obtain ⟨o1, ob1, l1, h1, h2, h3⟩ := h
  rcases getElem?_set_some h1 with ⟨rfl, rfl, _⟩ | ⟨hne, h1⟩
  · exact .inl ⟨l1, h2, h3⟩
  · exact .inr ⟨o1, ob1, l1, hne, h1, h2, h3⟩
/-- An object turned into ob', its place kept: what it was written into is its own block, or nothing. -/
theorem Mem.turn (M : Mem w Zo m β) (hm : m[o]? = some ob) (hl : β[o]? = some l) (hk : obLe (some ob) (some l) (some ob') (some l))
    (hb : ∀ b, ob'.blk l = some b → ob.blk l = some b) (hs : w'.heap.size = w.heap.size)
    (hw : ∀ b, b < w.heap.size → ob.blk l ≠ some b → w'.heap[b]? = w.heap[b]?)
    (k : (cx w Zo m β).le (cx w' Zo (m.set o ob') β) → (∀ b, ob.blk l = some b → ob'.blk l = none → (cx w' Zo (m.set o ob') β).fz b) → OK (cx w' Zo (m.set o ob') β) l ob') :
    Mem w' Zo (m.set o ob') β ∧ (cx w Zo m β).le (cx w' Zo (m.set o ob') β) := by
  have hlive : ∀ b, liveAt (m.set o ob') β b → liveAt m β b := by
    intro b h
    rcases liveAt_set h with ⟨l1, h1, h2⟩ | ⟨o1, ob1, l1, _, h1, h2, h3⟩
    · rw [hl] at h1; cases h1
      exact ⟨o, ob, l, hm, hl, hb b h2⟩
    · exact ⟨o1, ob1, l1, h1, h2, h3⟩
  have hle : (cx w Zo m β).le (cx w' Zo (m.set o ob') β) := by
    refine ⟨fun b hf => ⟨⟨by show b < w'.heap.size; rw [hs]; exact hf.1, ?_⟩, hw b hf.1 ?_⟩, fun o1 _ => ?_⟩
    · rintro (hz | hz)
      · exact hf.2 (.inl hz)
      · exact hf.2 (.inr (hlive b hz))
    · intro he
      exact hf.2 (.inr ⟨o, ob, l, hm, hl, he⟩)
    · show obLe m[o1]? β[o1]? (m.set o ob')[o1]? β[o1]?
      by_cases h : o1 = o
      · subst h
        rw [List.getElem?_set_self (List.getElem?_eq_some_iff.1 hm).1, hm, hl]
        exact hk
      · rw [List.getElem?_set_ne (fun q => h q.symm)]
        exact obLe_refl _ _
  refine ⟨⟨by simp [M.len], ?_, ?_, fun b h => M.out b (hlive b h), fun b h => by rw [hs]; exact M.zlt b h⟩, hle⟩
  · intro o1 ob1 l1 h1 h2
    rcases getElem?_set_some h1 with ⟨rfl, rfl, _⟩ | ⟨hne, h1⟩
    · rw [hl] at h2; cases h2
      refine k hle (fun b he hn => ⟨?_, ?_⟩)
      · show b < w'.heap.size
        rw [hs]
        exact (blk_lt (M.ok _ _ _ hm hl) he).2
      · rintro (hz | hz)
        · exact M.out b ⟨_, ob, l, hm, hl, he⟩ hz
        · rcases liveAt_set hz with ⟨l1, h3, h4⟩ | ⟨o2, ob2, l2, hne, h3, h4, h5⟩
          · rw [hl] at h3; cases h3
            rw [hn] at h4; cases h4
          · exact hne (M.sep _ _ _ _ _ _ b h3 hm h4 hl h5 he)
    · refine (M.ok o1 ob1 l1 h1 h2).mono hle (fun b he => hw b (blk_lt (M.ok o1 ob1 l1 h1 h2) he).2 ?_)
      intro he2
      exact hne (M.sep o1 o ob1 ob l1 l b h1 hm h2 hl he he2)
  · intro o1 o2 ob1 ob2 l1 l2 b h1 h2 h3 h4 h5 h6
    have g : ∀ (p : Nat) (q : Ob) (r : Lc), (m.set o ob')[p]? = some q → β[p]? = some r → q.blk r = some b → ∃ ob3, m[p]? = some ob3 ∧ ob3.blk r = some b := by
      intro p q r g1 g2 g3
      rcases getElem?_set_some g1 with ⟨e1, e2, _⟩ | ⟨hne1, g1⟩
      · subst e1
        rw [hl] at g2; cases g2
        exact ⟨ob, hm, hb b (by rw [← e2]; exact g3)⟩
      · exact ⟨q, g1, g3⟩
    obtain ⟨ob3, a1, a2⟩ := g _ _ _ h1 h3 h5
    obtain ⟨ob4, b1, b2⟩ := g _ _ _ h2 h4 h6
    exact M.sep _ _ _ _ _ _ b a1 b1 h3 h4 a2 b2
/-- A hole is filled by an object in new memory. -/
theorem Mem.fill (M : Mem w Zo m β) (hm : m[o]? = some .hole) (h : Grow w w') (hn : ∀ b, ob.blk l = some b → w.heap.size ≤ b)
    (k : (cx w Zo m β).le (cx w' Zo (m.set o ob) (β.set o l)) → OK (cx w' Zo (m.set o ob) (β.set o l)) l ob) :
    Mem w' Zo (m.set o ob) (β.set o l) ∧ (cx w Zo m β).le (cx w' Zo (m.set o ob) (β.set o l)) := by
  have hom : o < m.length := (List.getElem?_eq_some_iff.1 hm).1
  have hoβ : o < β.length := by rw [M.len]; exact hom
  have g : ∀ (p : Nat) (q : Ob) (r : Lc) (b : Nat), (m.set o ob)[p]? = some q → (β.set o l)[p]? = some r → q.blk r = some b → (p ≠ o ∧ m[p]? = some q ∧ β[p]? = some r ∧ b < w.heap.size) ∨ (p = o ∧ w.heap.size ≤ b) := by
    intro p q r b g1 g2 g3
    rcases getElem?_set_some g1 with ⟨e1, e2, _⟩ | ⟨hne, g1⟩
    · refine .inr ⟨e1, ?_⟩
      subst e1; subst e2
      rw [List.getElem?_set_self hoβ] at g2
      cases g2
      exact hn b g3
    · rw [List.getElem?_set_ne (fun q => hne q.symm)] at g2
      exact .inl ⟨hne, g1, g2, M.live_lt ⟨_, _, _, g1, g2, g3⟩⟩
  have hle : (cx w Zo m β).le (cx w' Zo (m.set o ob) (β.set o l)) := by
    refine ⟨fun b hf => ⟨⟨Nat.lt_of_lt_of_le hf.1 h.size, ?_⟩, h.block b hf.1⟩, fun o1 _ => ?_⟩
    · rintro (hz | ⟨p, q, r, h1, h2, h3⟩)
      · exact hf.2 (.inl hz)
      · rcases g p q r b h1 h2 h3 with ⟨_, a1, a2, _⟩ | ⟨_, a1⟩
        · exact hf.2 (.inr ⟨p, q, r, a1, a2, h3⟩)
        · have := hf.1
          have h2 : b < w.heap.size := hf.1
          omega
    · show obLe m[o1]? β[o1]? (m.set o ob)[o1]? (β.set o l)[o1]?
      by_cases e : o1 = o
      · subst e
        rw [hm]
        unfold obLe
        split <;> simp_all
      · rw [List.getElem?_set_ne (fun q => e q.symm), List.getElem?_set_ne (fun q => e q.symm)]
        exact obLe_refl _ _
  refine ⟨⟨by simp [M.len], ?_, ?_, ?_, fun b hb => Nat.lt_of_lt_of_le (M.zlt b hb) h.size⟩, hle⟩
  · intro p q r h1 h2
    by_cases e : p = o
    · subst e
      rw [List.getElem?_set_self hom] at h1
      rw [List.getElem?_set_self hoβ] at h2
      cases h1; cases h2
      exact k hle
    · rw [List.getElem?_set_ne (fun q => e q.symm)] at h1
      rw [List.getElem?_set_ne (fun q => e q.symm)] at h2
      exact (M.ok p q r h1 h2).mono hle (fun b hb => h.block b (blk_lt (M.ok p q r h1 h2) hb).2)
  · intro p p' q q' r r' b h1 h2 h3 h4 h5 h6
    rcases g p q r b h1 h3 h5 with ⟨_, a1, a2, a3⟩ | ⟨a1, a2⟩ <;> rcases g p' q' r' b h2 h4 h6 with ⟨_, b1, b2, b3⟩ | ⟨b1, b2⟩
    · exact M.sep _ _ _ _ _ _ b a1 b1 a2 b2 h5 h6
    · omega
    · omega
    · omega
  · rintro b ⟨p, q, r, h1, h2, h3⟩ hz
    rcases g p q r b h1 h2 h3 with ⟨_, a1, a2, _⟩ | ⟨_, a1⟩
    · exact M.out b ⟨p, q, r, a1, a2, h3⟩ hz
    · have := M.zlt b hz
      omega
end
end Go.Pm
