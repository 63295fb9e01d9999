/- The abstract machine: calls that write what the caller holds. -/
import Derived.Test.YtkdaijcdddomjaaPm14
set_option linter.unusedVariables false
set_option linter.unusedSimpArgs false
namespace Go.Pm
open Go.RowKit

def frz1 (m : List Ob) (q : Nat) : List Ob := match m[q]? with
  | some ob => m.set q ob.still
  | none => m
def frzM : List Nat → List Ob → List Ob
  | [], m => m
  | q :: qs, m => frzM qs (frz1 m q)
section
variable {w : World} {Zo : Nat → Prop} {m : List Ob} {β : List Lc}
theorem Ob.still_blk (ob : Ob) (l : Lc) : ob.still.blk l = none := by cases ob <;> rfl
theorem Ob.still_le (ob : Ob) (l : Lc) : obLe (some ob) (some l) (some ob.still) (some l) := by
  cases ob with
  | hole => trivial
  | dead => rfl
  | box lv cs => exact .inr ⟨_, _, _, rfl, rfl, rfl⟩
  | arr lv sz xs => exact .inr ⟨_, _, rfl, rfl, Nat.le_refl _⟩
  | mp lv ks vs => exact .inr ⟨_, _, _, _, rfl, rfl, rfl⟩
theorem Mem.frz1 (M : Mem w Zo m β) (q : Nat) : Mem w Zo (frz1 m q) β ∧ (cx w Zo m β).le (cx w Zo (frz1 m q) β) ∧ ∀ b, liveAt (Pm.frz1 m q) β b → liveAt m β b := by
  unfold Pm.frz1
  cases hm : m[q]? with
  | none => exact ⟨M, ⟨fun b h => ⟨h, rfl⟩, fun o _ => obLe_refl _ _⟩, fun _ h => h⟩
  | some ob =>
    obtain ⟨l, hl, hok⟩ := M.at_ hm
    have := M.turn (w' := w) (ob' := ob.still) hm hl (ob.still_le l) (fun b h => by rw [ob.still_blk] at h; cases h) rfl (fun _ _ _ => rfl) (fun hle hz => by
      have hk := hok.mono (c' := cx w Zo (m.set q ob.still) β) hle (fun b hb => rfl)
      cases ob with
      | hole => trivial
      | dead => trivial
      | box lv cs =>
        obtain ⟨us, e, fr, h1, h2, h3, h4, h5⟩ := hk
        refine ⟨us, e, fr, h1, h2, h3, h4, .inr ?_⟩
        cases lv with
        | true => exact hz _ rfl rfl
        | false => exact h5.resolve_left (by simp)
      | arr lv sz xs =>
        obtain ⟨g1, g2, g3, g4⟩ := hk
        refine ⟨g1, g2, g3, ?_⟩
        by_cases hc : l.cap = 0
        · exact .inl hc
        · obtain ⟨us, e, fr, h1, h2, h3, h4, h5⟩ := g4.resolve_left hc
          refine .inr ⟨us, e, fr, h1, h2, h3, h4, .inr ?_⟩
          cases lv with
          | true => exact hz _ (by simp [Ob.blk, hc]) rfl
          | false => exact h5.resolve_left (by simp)
      | mp lv ks vs =>
        obtain ⟨es, n, h1, h2, h3, h5⟩ := hk
        refine ⟨es, n, h1, h2, h3, .inr ?_⟩
        cases lv with
        | true => exact hz _ rfl rfl
        | false => exact h5.resolve_left (by simp))
    refine ⟨this.1, this.2, ?_⟩
    rintro b ⟨o1, ob1, l1, h1, h2, h3⟩
    rcases getElem?_set_some h1 with ⟨_, rfl, _⟩ | ⟨_, h1⟩
    · rw [ob.still_blk] at h3; cases h3
    · exact ⟨o1, ob1, l1, h1, h2, h3⟩
theorem Cx.le_refl (c : Cx) : c.le c := ⟨fun b h => ⟨h, rfl⟩, fun o _ => obLe_refl _ _⟩
theorem Mem.frz : ∀ (qs : List Nat) {m : List Ob}, Mem w Zo m β → Mem w Zo (frzM qs m) β ∧ (cx w Zo m β).le (cx w Zo (frzM qs m) β) ∧ ∀ b, liveAt (frzM qs m) β b → liveAt m β b
  | [], m, M => ⟨M, Cx.le_refl _, fun _ h => h⟩
  | q :: qs, m, M => by
    obtain ⟨M1, h1, l1⟩ := M.frz1 q
    obtain ⟨M2, h2, l2⟩ := Mem.frz qs M1
    exact ⟨M2, h1.trans h2, fun b h => l1 b (l2 b h)⟩
theorem frzM_length : ∀ (qs : List Nat) (m : List Ob), (frzM qs m).length = m.length
  | [], m => rfl
  | q :: qs, m => by
    simp only [frzM]
    rw [frzM_length qs]
    unfold Pm.frz1
    split <;> simp
end

section
variable {w : World} {Zo : Nat → Prop} {m : List Ob} {β : List Lc}
mutual
theorem conv_sound (M : Mem w Zo m β) : ∀ (x : V) (v : Value), RV (cx w Zo m β) x v → RV (cx w Zo m β) (conv m x) v
  | .ar q off len, v, h => by
    unfold conv
    split
    · rename_i sz xs hm
      obtain ⟨_, l, hl, ⟨g1, g2, g3, g4⟩, hle, A, e, hA⟩ := at_ar M (Agree.refl m) hm h
      have hlen : ((xs.drop off).take len).length = len := by simp; omega
      refine ⟨A, l.cap - off, by rw [hlen]; exact e, by rw [hlen]; omega, by rw [hlen]; omega, ?_⟩
      by_cases h0 : len = 0
      · exact .inl (List.eq_nil_of_length_eq_zero (by rw [hlen, h0]))
      · refine .inr ?_
        rcases g4 with g4 | ⟨us, e', fr, h1, h2, h3, h4, h5⟩
        · omega
        · refine ⟨l.b, off * sz, hA (by omega), h5.resolve_left (by simp), ?_⟩
          have := (h4.drop off).take len
          rwa [Nat.zero_add] at this
    · exact h
  | .ptr q off, v, h => by
    unfold conv
    split
    · rename_i cs hm
      obtain ⟨_, l, hl, ⟨us, e', fr, h1, h2, h3, h4, h5⟩, e⟩ := at_ptr M (Agree.refl m) hm h (by simp)
      exact ⟨l.b, e, h5.resolve_left (by simp), h4⟩
    · exact h
  | .eptr q i off, v, h => by
    unfold conv
    split
    · rename_i sz xs hm
      split
      · obtain ⟨_, l, hl, ⟨g1, g2, g3, g4⟩, e⟩ := at_eptr M (Agree.refl m) hm h
        rcases g4 with g4 | ⟨us, e', fr, h1, h2, h3, h4, h5⟩
        · omega
        · exact ⟨l.b, 0, by rw [Nat.zero_add]; exact e, h5.resolve_left (by simp), h4⟩
      · trivial
    · exact h
  | .map q, v, h => by
    unfold conv
    split
    · rename_i ks vs hm
      obtain ⟨_, l, hl, ⟨es, n, h1, h2, h3, h5⟩, e⟩ := at_map M (Agree.refl m) hm h
      exact ⟨l.b, es, n, e, h5.resolve_left (by simp), h1, h2, h3⟩
    · exact h
  | .agg cs, v, ⟨us, e, h⟩ => ⟨us, e, convs_sound M cs us.toList h⟩
  | .tup cs, v, ⟨us, e, h⟩ => ⟨us, e, convs_sound M cs us.toList h⟩
  | .fn f fs cs, v, ⟨us, vs, e, h1, h2⟩ => ⟨us, vs, e, convs_sound M fs us.toList h1, convs_sound M cs vs.toList h2⟩
  | .junk, v, h => trivial
  | .int k n, v, h => h
  | .bool b, v, h => h
  | .str s, v, h => h
  | .nil, v, h => h
  | .e0, v, h => h
  | .arc _ _ _ _, v, h => trivial
  | .sl sz xs, v, h => h
  | .sptr sz xs i off, v, h => h
  | .fptr cs off, v, h => h
  | .fmap ks vs, v, h => h
theorem convs_sound (M : Mem w Zo m β) : ∀ (xs : List V) (us : List Value), RVs (cx w Zo m β) xs us → RVs (cx w Zo m β) (convs m xs) us
  | [], us, h => h
  | x :: xs, us, ⟨u, us', e, h1, h2⟩ => ⟨u, us', e, conv_sound M x u h1, convs_sound M xs us' h2⟩
end
/- the section of the memory ends here -/
end
def idx : List Nat → Nat → Nat
  | [], _ => 0
  | k :: ks, q => if k = q then 0 else idx ks q + 1
theorem idx_get : ∀ {ks : List Nat} {q : Nat}, q ∈ ks → ks[idx ks q]? = some q
  | k :: ks, q, h => by
    unfold idx
    split
    · rename_i e; subst e; rfl
    · rename_i e
      rcases List.mem_cons.1 h with rfl | h
      · exact absurd rfl e
      · simpa using idx_get h
def Ob.ren (ρ : Nat → Nat) : Ob → Ob
  | .box lv cs => .box lv (rens ρ cs)
  | .arr lv sz xs => .arr lv sz (renss ρ xs)
  | .mp lv ks vs => .mp lv (rens ρ ks) (rens ρ vs)
  | ob => ob
def Ob.refs (ok : Nat → Prop) : Ob → Prop
  | .box _ cs => Refs ok cs
  | .arr _ _ xs => Refss ok xs
  | .mp _ ks vs => Refs ok ks ∧ Refs ok vs
  | _ => True
theorem Ob.ren_blk (ρ : Nat → Nat) (ob : Ob) (l : Lc) : (ob.ren ρ).blk l = ob.blk l := by
  cases ob <;> simp only [Ob.ren] <;> rename_i lv _ <;> (try (rename_i a; cases a <;> rfl)) <;> (try (cases lv <;> rfl))
  all_goals (first | rfl | (rename_i a b; cases a <;> rfl))
theorem obLe_ren (ρ : Nat → Nat) (x : Option Ob) (y : Option Lc) : obLe x y (x.map (Ob.ren ρ)) y := by
  cases x with
  | none => cases y <;> trivial
  | some ob =>
    cases y with
    | none => cases ob <;> first | trivial | rfl
    | some l =>
      cases ob with
      | hole => trivial
      | dead => rfl
      | box lv cs => exact .inr ⟨_, _, _, rfl, rfl, rfl⟩
      | arr lv sz xs => exact .inr ⟨_, _, rfl, rfl, by rw [renss_length]; exact Nat.le_refl _⟩
      | mp lv ks vs => exact .inr ⟨_, _, _, _, rfl, rfl, rfl⟩

theorem idx_of {ks : List Nat} (hn : ks.Nodup) {i q : Nat} (h : ks[i]? = some q) : idx ks q = i := by
  have h1 := idx_get (List.mem_of_getElem? h)
  exact (List.getElem?_inj (List.getElem?_eq_some_iff.1 h1).1 hn).1 (h1.trans h.symm)
theorem obLe_ren' (ρ : Nat → Nat) {x z : Option Ob} {y u : Option Lc} (h : obLe x y z u) : obLe x y (z.map (Ob.ren ρ)) u := by
  cases x with
  | none => cases y <;> trivial
  | some ob =>
    cases y with
    | none =>
      cases ob <;> first | trivial | skip
      have h : z = some .dead := h
      rw [h]; rfl
    | some l =>
      cases ob with
      | hole => trivial
      | dead => have h : z = some .dead := h; rw [h]; rfl
      | box lv cs =>
        rcases h with h | ⟨lv', cs', l', h, h', e⟩
        · rw [h]; exact .inl rfl
        · rw [h]; exact .inr ⟨_, _, l', rfl, h', e⟩
      | arr lv sz xs =>
        rcases h with h | ⟨lv', xs', h, h', e⟩
        · rw [h]; exact .inl rfl
        · rw [h]; exact .inr ⟨_, _, rfl, h', by rw [renss_length]; exact e⟩
      | mp lv ks vs =>
        rcases h with h | ⟨lv', ks', vs', l', h, h', e⟩
        · rw [h]; exact .inl rfl
        · rw [h]; exact .inr ⟨_, _, _, l', rfl, h', e⟩
theorem obLe_unren {ρ : Nat → Nat} {x z : Option Ob} {y u : Option Lc} (h : obLe (x.map (Ob.ren ρ)) y z u) : obLe x y z u := by
  cases x with
  | none => cases y <;> trivial
  | some ob =>
    cases y with
    | none => cases ob <;> first | trivial | exact h
    | some l =>
      cases ob with
      | hole => trivial
      | dead => exact h
      | box lv cs => exact h
      | arr lv sz xs =>
        rcases h with h | ⟨lv', xs', h, h', e⟩
        · exact .inl h
        · exact .inr ⟨_, _, h, h', by rwa [renss_length] at e⟩
      | mp lv ks vs => exact h
theorem OK.ren {c c' : Cx} {ρ : Nat → Nat} {ok : Nat → Prop} (h : Tr c c' ρ ok) {l : Lc} {ob : Ob} (hw : c'.w.heap[l.b]? = c.w.heap[l.b]?) (hp : ob.refs ok) (k : OK c l ob) : OK c' l (ob.ren ρ) := by
  cases ob with
  | hole => trivial
  | dead => trivial
  | box lv cs =>
    obtain ⟨us, e, fr, h1, h2, h3, h4, h5⟩ := k
    exact ⟨us, e, fr, hw.trans h1, by rw [rens_length]; exact h2, h3, RC.tr h l.b hw cs 0 hp h4, h5.imp id fun q => (h.fz _ q).1⟩
  | arr lv sz xs =>
    obtain ⟨h1, h2, h3, h4⟩ := k
    refine ⟨by rw [renss_length]; exact h1, h2, h3, h4.imp id ?_⟩
    rintro ⟨us, e, fr, g1, g2, g3, g4, g5⟩
    exact ⟨us, e, fr, hw.trans g1, g2, g3, RR.tr h sz l.b hw xs 0 hp g4, g5.imp id fun q => (h.fz _ q).1⟩
  | mp lv ks vs =>
    obtain ⟨es, n, h1, h2, h3, h4⟩ := k
    exact ⟨es, n, hw.trans h1, RVs.tr h ks _ hp.1 h2, RVs.tr h vs _ hp.2 h3, h4.imp id fun q => (h.fz _ q).1⟩
theorem Ob.refs_all (ob : Ob) : ob.refs (fun _ => True) := by
  cases ob with
  | hole => trivial
  | dead => trivial
  | box lv cs => exact Refs.all cs
  | arr lv sz xs => exact Refss.all xs
  | mp lv ks vs => exact ⟨Refs.all ks, Refs.all vs⟩

/-! ### some objects, alone -/
def sel (ks : List Nat) (m : List Ob) : List Ob := ks.map fun q => (m.getD q .hole).ren (idx ks)
def selL (ks : List Nat) (β : List Lc) : List Lc := ks.map fun q => β.getD q ⟨0, 0⟩
/-- The blocks that others may write, where the objects ks are one's own. -/
def others (ks : List Nat) (Zo : Nat → Prop) (m : List Ob) (β : List Lc) (b : Nat) : Prop := Zo b ∨ ∃ (o : Nat) (ob : Ob) (l : Lc), o ∉ ks ∧ m[o]? = some ob ∧ β[o]? = some l ∧ ob.blk l = some b
section
variable {w : World} {Zo Zo' : Nat → Prop} {m : List Ob} {β : List Lc}
theorem sel_get {ks : List Nat} (hlt : ∀ q ∈ ks, q < m.length) (j : Nat) : (sel ks m)[j]? = (ks[j]?.bind fun q => m[q]?).map (Ob.ren (idx ks)) := by
  unfold sel
  rw [List.getElem?_map]
  cases hk : ks[j]? with
  | none => rfl
  | some q =>
    have hq := hlt q (List.mem_of_getElem? hk)
    simp [List.getD_eq_getElem?_getD, hq]
theorem selL_get {ks : List Nat} (hlt : ∀ q ∈ ks, q < β.length) (j : Nat) : (selL ks β)[j]? = ks[j]?.bind fun q => β[q]? := by
  unfold selL
  rw [List.getElem?_map]
  cases hk : ks[j]? with
  | none => rfl
  | some q =>
    have hq := hlt q (List.mem_of_getElem? hk)
    simp [List.getD_eq_getElem?_getD, hq]
theorem Mem.sel (M : Mem w Zo m β) (ks : List Nat) (hn : ks.Nodup) (hlt : ∀ q ∈ ks, q < m.length) (hp : ∀ q ∈ ks, (m.getD q .hole).refs (· ∈ ks)) (hZ : ∀ b, Zo' b → Zo b ∨ liveAt m β b)
    (hO : ∀ q ob l b, q ∈ ks → m[q]? = some ob → β[q]? = some l → ob.blk l = some b → ¬ Zo' b) :
    Mem w Zo' (sel ks m) (selL ks β) ∧ Tr (cx w Zo m β) (cx w Zo' (Pm.sel ks m) (selL ks β)) (idx ks) (fun q => q ∈ ks) ∧
      (∀ b, liveAt (Pm.sel ks m) (selL ks β) b → ∃ q ∈ ks, ∃ ob l, m[q]? = some ob ∧ β[q]? = some l ∧ ob.blk l = some b) := by
  have hltb : ∀ q ∈ ks, q < β.length := fun q hq => by rw [M.len]; exact hlt q hq
  have g1 : ∀ (j : Nat) (ob : Ob), (Pm.sel ks m)[j]? = some ob → ∃ q ob', ks[j]? = some q ∧ m[q]? = some ob' ∧ ob = ob'.ren (idx ks) := by
    intro j ob h
    rw [sel_get hlt] at h
    cases hk : ks[j]? with
    | none => rw [hk] at h; cases h
    | some q =>
      rw [hk] at h
      simp only [Option.bind_some] at h
      cases hm : m[q]? with
      | none => rw [hm] at h; cases h
      | some ob' =>
        rw [hm] at h
        simp only [Option.map_some, Option.some.injEq] at h
        exact ⟨q, ob', rfl, hm, h.symm⟩
  have g2 : ∀ (j : Nat) (l : Lc) (q : Nat), ks[j]? = some q → (selL ks β)[j]? = some l → β[q]? = some l := by
    intro j l q hk h
    rw [selL_get hltb, hk] at h
    exact h
  have hlive : ∀ b, liveAt (Pm.sel ks m) (selL ks β) b → ∃ q ∈ ks, ∃ ob l, m[q]? = some ob ∧ β[q]? = some l ∧ ob.blk l = some b := by
    rintro b ⟨j, ob, l, h1, h2, h3⟩
    obtain ⟨q, ob', hk, hm, rfl⟩ := g1 j ob h1
    rw [Ob.ren_blk] at h3
    exact ⟨q, List.mem_of_getElem? hk, ob', l, hm, g2 j l q hk h2, h3⟩
  have hfz : ∀ b, (cx w Zo m β).fz b → (cx w Zo' (Pm.sel ks m) (selL ks β)).fz b := by
    refine fun b h => ⟨h.1, ?_⟩
    rintro (hz | hz)
    · exact h.2 (hZ b hz)
    · obtain ⟨q, _, ob, l, a1, a2, a3⟩ := hlive b hz
      exact h.2 (.inr ⟨q, ob, l, a1, a2, a3⟩)
  have htr : Tr (cx w Zo m β) (cx w Zo' (Pm.sel ks m) (selL ks β)) (idx ks) (fun q => q ∈ ks) := by
    refine ⟨fun b h => ⟨hfz b h, rfl⟩, fun q hq => ?_⟩
    have hk := idx_get hq
    have hql := hlt q hq
    show obLe m[q]? β[q]? (Pm.sel ks m)[idx ks q]? (selL ks β)[idx ks q]?
    rw [sel_get hlt, selL_get hltb, hk]
    exact obLe_ren _ _ _
  refine ⟨⟨by simp [Pm.sel, selL], ?_, ?_, fun b h => ?_, fun b h => ?_⟩, htr, hlive⟩
  · intro j ob l h1 h2
    obtain ⟨q, ob', hk, hm, rfl⟩ := g1 j ob h1
    have hβ := g2 j l q hk h2
    have hpu := hp q (List.mem_of_getElem? hk)
    rw [List.getD_eq_getElem?_getD, hm] at hpu
    exact OK.ren htr rfl hpu (M.ok q ob' l hm hβ)
  · intro j j' ob ob' l l' b h1 h2 h3 h4 h5 h6
    obtain ⟨q, o1, hk, hm, rfl⟩ := g1 j ob h1
    obtain ⟨q', o2, hk', hm', rfl⟩ := g1 j' ob' h2
    rw [Ob.ren_blk] at h5 h6
    have e := M.sep q q' o1 o2 l l' b hm hm' (g2 j l q hk h3) (g2 j' l' q' hk' h4) h5 h6
    subst e
    exact (List.getElem?_inj (List.getElem?_eq_some_iff.1 hk).1 hn).1 (hk.trans hk'.symm)
  · obtain ⟨q, hq, ob, l, a1, a2, a3⟩ := hlive b h
    exact hO q ob l b hq a1 a2 a3
  · rcases hZ b h with h | h
    · exact M.zlt b h
    · exact M.live_lt h
end

/-! ### back among the others -/
def upd {α : Type} : List α → List Nat → List α → List α
  | l, k :: ks, x :: xs => upd (l.set k x) ks xs
  | l, _, _ => l
theorem upd_length {α : Type} : ∀ (ks : List Nat) (l xs : List α), (upd l ks xs).length = l.length
  | [], l, xs => by cases xs <;> rfl
  | k :: ks, l, [] => rfl
  | k :: ks, l, x :: xs => by rw [upd, upd_length ks]; simp
theorem upd_get {α : Type} : ∀ (ks : List Nat) (l xs : List α) (q : Nat), ks.Nodup → ks.length ≤ xs.length → (upd l ks xs)[q]? = if q ∈ ks ∧ q < l.length then xs[idx ks q]? else l[q]?
  | [], l, xs, q, _, _ => by simp [upd]
  | k :: ks, l, [], q, _, h => by simp at h
  | k :: ks, l, x :: xs, q, hn, h => by
    have hn' := List.nodup_cons.1 hn
    rw [upd, upd_get ks _ xs q hn'.2 (by simpa using h)]
    by_cases e : q = k
    · subst e
      rw [if_neg (fun h => hn'.1 h.1)]
      by_cases hl : q < l.length
      · rw [if_pos ⟨List.mem_cons_self, hl⟩, List.getElem?_set_self hl]
        simp [idx]
      · rw [if_neg (fun h => hl h.2), List.getElem?_eq_none (by simp; omega), List.getElem?_eq_none (by omega)]
    · have e' : ¬ k = q := fun h => e h.symm
      by_cases hq : q ∈ ks ∧ q < l.length
      · rw [if_pos (by simpa using hq), if_pos ⟨List.mem_cons_of_mem _ hq.1, hq.2⟩]
        simp [idx, e']
      · rw [if_neg (by simpa using hq), List.getElem?_set_ne e', if_neg]
        rintro ⟨h1, h2⟩
        rcases List.mem_cons.1 h1 with h1 | h1
        · exact e h1
        · exact hq ⟨h1, h2⟩
/-- New numbers for what a call hands over. -/
def sg (ks : List Nat) (N i : Nat) : Nat := match ks[i]? with
  | some q => q
  | none => N + (i - ks.length)
def bk {α : Type} (m : List α) (ks : List Nat) (m' : List α) : List α := upd m ks m' ++ m'.drop ks.length
theorem bk_get {α : Type} {m m' : List α} {ks : List Nat} (hn : ks.Nodup) (hlen : ks.length ≤ m'.length) (q : Nat) :
    (bk m ks m')[q]? = if q < m.length then (if q ∈ ks then m'[idx ks q]? else m[q]?) else m'[ks.length + (q - m.length)]? := by
  unfold bk
  by_cases h : q < m.length
  · rw [if_pos h, List.getElem?_append_left (by rw [upd_length]; exact h), upd_get _ _ _ _ hn hlen]
    by_cases hq : q ∈ ks
    · rw [if_pos ⟨hq, h⟩, if_pos hq]
    · rw [if_neg (fun x => hq x.1), if_neg hq]
  · rw [if_neg h, List.getElem?_append_right (by rw [upd_length]; omega), upd_length, List.getElem?_drop]
theorem bk_length {α : Type} {m m' : List α} {ks : List Nat} : (bk m ks m').length = m.length + (m'.length - ks.length) := by simp [bk, upd_length]
section
variable {w w' : World} {Zo : Nat → Prop} {m m' : List Ob} {β β' : List Lc} {ks : List Nat} {L : Nat → Prop}
theorem Mem.back (M : Mem w Zo m β) (hn : ks.Nodup) (hlt : ∀ q ∈ ks, q < m.length) (hlen : ks.length ≤ m'.length) (F : Frame L w w')
    (hL : ∀ b, L b → ∃ q ∈ ks, ∃ ob l, m[q]? = some ob ∧ β[q]? = some l ∧ ob.blk l = some b) (M' : Mem w' (others ks Zo m β) m' β')
    (hp : ∀ (i q : Nat), ks[i]? = some q → obLe m[q]? β[q]? m'[i]? β'[i]?) (hl : ∀ b, liveAt m' β' b → L b ∨ w.heap.size ≤ b) :
    Mem w' Zo (bk m ks (m'.map (Ob.ren (sg ks m.length)))) (bk β ks β') ∧ (cx w Zo m β).le (cx w' Zo (bk m ks (m'.map (Ob.ren (sg ks m.length)))) (bk β ks β')) ∧
      Tr (cx w' (others ks Zo m β) m' β') (cx w' Zo (bk m ks (m'.map (Ob.ren (sg ks m.length)))) (bk β ks β')) (sg ks m.length) (fun _ => True) ∧
      (∀ b, liveAt (bk m ks (m'.map (Ob.ren (sg ks m.length)))) (bk β ks β') b → liveAt m β b ∨ w.heap.size ≤ b) := by
  generalize hσ : sg ks m.length = σ
  have hlenb : ks.length ≤ β'.length := by rw [M'.len]; exact hlen
  have gm : ∀ q, (bk m ks (m'.map (Ob.ren σ)))[q]? = if q < m.length then (if q ∈ ks then m'[idx ks q]?.map (Ob.ren σ) else m[q]?) else m'[ks.length + (q - m.length)]?.map (Ob.ren σ) := fun q => by
    rw [bk_get hn (by simpa using hlen)]
    simp only [List.getElem?_map]
  have gβ : ∀ q, (bk β ks β')[q]? = if q < m.length then (if q ∈ ks then β'[idx ks q]? else β[q]?) else β'[ks.length + (q - m.length)]? := fun q => by
    rw [bk_get hn hlenb, M.len]
  have hσ1 : ∀ i q, ks[i]? = some q → σ i = q := by
    intro i q h
    rw [← hσ]; unfold sg; rw [h]
  have hσ2 : ∀ i, ks.length ≤ i → σ i = m.length + (i - ks.length) := by
    intro i h
    rw [← hσ]; unfold sg; rw [List.getElem?_eq_none h]
  have gs : ∀ i, i < m'.length → (bk m ks (m'.map (Ob.ren σ)))[σ i]? = m'[i]?.map (Ob.ren σ) ∧ (bk β ks β')[σ i]? = β'[i]? := by
    intro i hi
    rcases Nat.lt_or_ge i ks.length with h | h
    · have hk : ks[i]? = some ks[i] := List.getElem?_eq_getElem h
      have hmem : ks[i] ∈ ks := List.getElem_mem h
      rw [hσ1 i _ hk, gm, gβ, if_pos (hlt _ hmem), if_pos hmem, idx_of hn hk, if_pos (hlt _ hmem), if_pos hmem]
      exact ⟨rfl, rfl⟩
    · rw [hσ2 i h, gm, gβ, if_neg (by omega), if_neg (by omega), show ks.length + (m.length + (i - ks.length) - m.length) = i by omega]
      exact ⟨rfl, rfl⟩
  have cls : ∀ (q : Nat) (ob : Ob) (l : Lc), (bk m ks (m'.map (Ob.ren σ)))[q]? = some ob → (bk β ks β')[q]? = some l →
      (q ∉ ks ∧ m[q]? = some ob ∧ β[q]? = some l) ∨ ∃ i ob0, q = σ i ∧ m'[i]? = some ob0 ∧ ob = ob0.ren σ ∧ β'[i]? = some l := by
    intro q ob l h1 h2
    rw [gm] at h1
    rw [gβ] at h2
    have mk : ∀ i, σ i = q → m'[i]?.map (Ob.ren σ) = some ob → β'[i]? = some l → ∃ i ob0, q = σ i ∧ m'[i]? = some ob0 ∧ ob = ob0.ren σ ∧ β'[i]? = some l := by
      intro i e h3 h4
      cases hm : m'[i]? with
      | none => rw [hm] at h3; cases h3
      | some ob0 =>
        rw [hm] at h3
        simp only [Option.map_some, Option.some.injEq] at h3
        exact ⟨i, ob0, e.symm, hm, h3.symm, h4⟩
    by_cases hq : q < m.length
    · rw [if_pos hq] at h1 h2
      by_cases hk : q ∈ ks
      · rw [if_pos hk] at h1 h2
        exact .inr (mk (idx ks q) (hσ1 _ _ (idx_get hk)) h1 h2)
      · rw [if_neg hk] at h1 h2
        exact .inl ⟨hk, h1, h2⟩
    · rw [if_neg hq] at h1 h2
      exact .inr (mk _ (by rw [hσ2 _ (by omega)]; omega) h1 h2)
  have hlive : ∀ b, liveAt (bk m ks (m'.map (Ob.ren σ))) (bk β ks β') b → (∃ o ob l, o ∉ ks ∧ m[o]? = some ob ∧ β[o]? = some l ∧ ob.blk l = some b) ∨ liveAt m' β' b := by
    rintro b ⟨q, ob, l, h1, h2, h3⟩
    rcases cls q ob l h1 h2 with ⟨a0, a1, a2⟩ | ⟨i, ob0, _, a1, rfl, a2⟩
    · exact .inl ⟨q, ob, l, a0, a1, a2, h3⟩
    · rw [Ob.ren_blk] at h3
      exact .inr ⟨i, ob0, l, a1, a2, h3⟩
  have hliveM : ∀ b, liveAt (bk m ks (m'.map (Ob.ren σ))) (bk β ks β') b → liveAt m β b ∨ w.heap.size ≤ b := by
    intro b hb
    rcases hlive b hb with ⟨o, ob, l, _, a1, a2, a3⟩ | h
    · exact .inl ⟨o, ob, l, a1, a2, a3⟩
    · rcases hl b h with h | h
      · obtain ⟨q, _, ob, l, a1, a2, a3⟩ := hL b h
        exact .inl ⟨q, ob, l, a1, a2, a3⟩
      · exact .inr h
  have hle : (cx w Zo m β).le (cx w' Zo (bk m ks (m'.map (Ob.ren σ))) (bk β ks β')) := by
    refine ⟨fun b hf => ⟨⟨Nat.lt_of_lt_of_le hf.1 F.size, ?_⟩, F.block b hf.1 fun h => ?_⟩, fun q _ => ?_⟩
    · rintro (hz | hz)
      · exact hf.2 (.inl hz)
      · rcases hliveM b hz with h | h
        · exact hf.2 (.inr h)
        · have h2 : b < w.heap.size := hf.1
          omega
    · obtain ⟨q, _, ob, l, a1, a2, a3⟩ := hL b h
      exact hf.2 (.inr ⟨q, ob, l, a1, a2, a3⟩)
    · show obLe m[q]? β[q]? (bk m ks (m'.map (Ob.ren σ)))[q]? (bk β ks β')[q]?
      by_cases hq : q < m.length
      · rw [gm, gβ, if_pos hq, if_pos hq]
        by_cases hk : q ∈ ks
        · rw [if_pos hk, if_pos hk]
          exact obLe_ren' _ (hp _ _ (idx_get hk))
        · rw [if_neg hk, if_neg hk]
          exact obLe_refl _ _
      · rw [List.getElem?_eq_none (by omega : m.length ≤ q)]
        unfold obLe
        split <;> simp_all
  have htr : Tr (cx w' (others ks Zo m β) m' β') (cx w' Zo (bk m ks (m'.map (Ob.ren σ))) (bk β ks β')) σ (fun _ => True) := by
    refine ⟨fun b hf => ⟨⟨hf.1, ?_⟩, rfl⟩, fun i _ => ?_⟩
    · rintro (hz | hz)
      · exact hf.2 (.inl (.inl hz))
      · rcases hlive b hz with h | h
        · exact hf.2 (.inl (.inr h))
        · exact hf.2 (.inr h)
    · show obLe m'[i]? β'[i]? (bk m ks (m'.map (Ob.ren σ)))[σ i]? (bk β ks β')[σ i]?
      by_cases hi : i < m'.length
      · rw [(gs i hi).1, (gs i hi).2]
        exact obLe_ren _ _ _
      · rw [List.getElem?_eq_none (by omega : m'.length ≤ i)]
        unfold obLe
        split <;> simp_all
  refine ⟨⟨by rw [bk_length, bk_length, M.len, M'.len]; simp, ?_, ?_, ?_, fun b hz => Nat.lt_of_lt_of_le (M.zlt b hz) F.size⟩, hle, htr, hliveM⟩
  · intro q ob l h1 h2
    rcases cls q ob l h1 h2 with ⟨a0, a1, a2⟩ | ⟨i, ob0, _, a1, rfl, a2⟩
    · refine (M.ok q ob l a1 a2).mono hle fun b hb => F.block b (blk_lt (M.ok q ob l a1 a2) hb).2 fun h => ?_
      obtain ⟨q', hq', ob', l', b1, b2, b3⟩ := hL b h
      have := M.sep q q' ob ob' l l' b a1 b1 a2 b2 hb b3
      subst this
      exact a0 hq'
    · exact OK.ren htr rfl (Ob.refs_all ob0) (M'.ok i ob0 l a1 a2)
  · intro q q' ob ob' l l' b h1 h2 h3 h4 h5 h6
    rcases cls q ob l h1 h3 with ⟨a0, a1, a2⟩ | ⟨i, ob0, a0, a1, rfl, a2⟩ <;> rcases cls q' ob' l' h2 h4 with ⟨b0, b1, b2⟩ | ⟨i', ob0', b0, b1, rfl, b2⟩
    · exact M.sep _ _ _ _ _ _ b a1 b1 a2 b2 h5 h6
    · rw [Ob.ren_blk] at h6
      exact (M'.out b ⟨_, _, _, b1, b2, h6⟩ (.inr ⟨q, ob, l, a0, a1, a2, h5⟩)).elim
    · rw [Ob.ren_blk] at h5
      exact (M'.out b ⟨_, _, _, a1, a2, h5⟩ (.inr ⟨q', ob', l', b0, b1, b2, h6⟩)).elim
    · rw [Ob.ren_blk] at h5 h6
      have := M'.sep _ _ _ _ _ _ b a1 b1 a2 b2 h5 h6
      rw [a0, b0, this]
  · intro b hb hz
    rcases hlive b hb with ⟨o, ob, l, _, a1, a2, a3⟩ | h
    · exact M.out b ⟨o, ob, l, a1, a2, a3⟩ hz
    · exact M'.out b h (.inl hz)
end

/-! ### the places of objects, held -/
def plc1 (o : Nat) : Ob → List V
  | .box _ _ => [.ptr o 0]
  | .arr _ _ xs => [.ar o 0 xs.length, .eptr o 1 0]
  | .mp _ _ _ => [.map o]
  | _ => []
def plv1 (l : Lc) : Ob → List Value
  | .box _ _ => [.pointer (some ⟨l.b, 0, none⟩)]
  | .arr _ sz xs => [.slice (some ⟨l.b, 0 * sz, none⟩) xs.length (l.cap - 0), .pointer (some ⟨l.b, 1 * sz + 0, none⟩)]
  | .mp _ _ _ => [.map (some l.b)]
  | _ => []
def plc : Nat → List Ob → List V
  | _, [] => []
  | o, ob :: m => plc1 o ob ++ plc (o + 1) m
def plv : List Ob → List Lc → List Value
  | ob :: m, l :: β => plv1 l ob ++ plv m β
  | _, _ => []
theorem plc_in {c : Cx} : ∀ (m : List Ob) (β : List Lc) (k : Nat), β.length = m.length → (∀ i ob, m[i]? = some ob → c.m[k + i]? = some ob) → (∀ i l, β[i]? = some l → c.β[k + i]? = some l) → RVs c (plc k m) (plv m β)
  | [], β, k, _, _, _ => by cases β <;> rfl
  | ob :: m, [], k, h, _, _ => by simp at h
  | ob :: m, l :: β, k, h, h1, h2 => by
    have a1 : c.m[k]? = some ob := by simpa using h1 0 ob rfl
    have a2 : c.β[k]? = some l := by simpa using h2 0 l rfl
    refine RVs.append ?_ (plc_in m β (k + 1) (by simpa using h) (fun i ob' hi => ?_) (fun i l' hi => ?_))
    · cases ob with
      | hole => rfl
      | dead => rfl
      | box lv cs =>
        refine ⟨_, _, rfl, ?_, rfl⟩
        unfold RV; rw [a1, a2]
      | arr lv sz xs =>
        refine ⟨_, _, rfl, ?_, ⟨_, _, rfl, ?_, rfl⟩⟩
        · unfold RV; rw [a1, a2]; exact ⟨by omega, _, rfl, fun _ => rfl⟩
        · unfold RV; rw [a1, a2]
      | mp lv ks vs =>
        refine ⟨_, _, rfl, ?_, rfl⟩
        unfold RV; rw [a1, a2]
    · have := h1 (i + 1) ob' (by simpa using hi)
      rwa [show k + (i + 1) = k + 1 + i by omega] at this
    · have := h2 (i + 1) l' (by simpa using hi)
      rwa [show k + (i + 1) = k + 1 + i by omega] at this
theorem RVs.split {c : Cx} : ∀ {xs ys : List V} {us vs : List Value}, us.length = xs.length → RVs c (xs ++ ys) (us ++ vs) → RVs c xs us ∧ RVs c ys vs
  | [], ys, us, vs, hl, h => by
    have : us = [] := List.eq_nil_of_length_eq_zero hl
    subst this
    exact ⟨rfl, h⟩
  | x :: xs, ys, [], vs, hl, h => by simp at hl
  | x :: xs, ys, u :: us, vs, hl, ⟨u', us', e, h1, h2⟩ => by
    rw [List.cons_append] at e
    injection e with e1 e2
    subst e1; subst e2
    obtain ⟨a, b⟩ := RVs.split (by simpa using hl) h2
    exact ⟨⟨_, _, rfl, h1, a⟩, b⟩
theorem plc1_out {c : Cx} {o : Nat} {ob : Ob} {l : Lc} (h : RVs c (plc1 o ob) (plv1 l ob)) (hd : ob ≠ .dead) : obLe (some ob) (some l) c.m[o]? c.β[o]? := by
  cases ob with
  | hole => trivial
  | dead => exact absurd rfl hd
  | box lv cs =>
    obtain ⟨u, us, e, h1, _⟩ := h
    injection e with e1 e2
    subst e1
    unfold RV at h1
    cases hm : c.m[o]? with
    | none => rw [hm] at h1; exact h1.elim
    | some ob' =>
      cases hb : c.β[o]? with
      | none => rw [hm, hb] at h1; cases ob' <;> first | exact h1.elim | exact .inl rfl
      | some l' =>
        rw [hm, hb] at h1
        cases ob' <;> first | exact h1.elim | exact .inl rfl | skip
        simp only [Value.pointer.injEq, Option.some.injEq, Addr.mk.injEq] at h1
        exact .inr ⟨_, _, l', rfl, rfl, h1.1.symm⟩
  | arr lv sz xs =>
    obtain ⟨u, us, e, h1, u2, us2, e', h2, _⟩ := h
    simp only [plv1, List.cons.injEq] at e
    obtain ⟨e1, e2⟩ := e
    subst e1; subst e2
    simp only [List.cons.injEq] at e'
    obtain ⟨e3, _⟩ := e'
    subst e3
    unfold RV at h1 h2
    cases hm : c.m[o]? with
    | none => rw [hm] at h1; exact h1.elim
    | some ob' =>
      cases hb : c.β[o]? with
      | none => rw [hm, hb] at h1; cases ob' <;> first | exact h1.elim | exact .inl rfl
      | some l' =>
        rw [hm, hb] at h1 h2
        cases ob' <;> first | exact h1.elim | exact .inl rfl | skip
        obtain ⟨g1, A', g2, _⟩ := h1
        simp only [Value.slice.injEq] at g2
        simp only [Value.pointer.injEq, Option.some.injEq, Addr.mk.injEq] at h2
        obtain ⟨q1, q2, _⟩ := h2
        obtain ⟨b, cp⟩ := l
        obtain ⟨b', cp'⟩ := l'
        simp only at q1 g2
        have e1 : b = b' := q1
        have e2 : cp = cp' := by have := g2.2.2; omega
        simp only [Nat.one_mul, Nat.add_zero] at q2
        subst e1; subst e2; subst q2
        exact .inr ⟨_, _, rfl, rfl, by rw [Nat.zero_add] at g1; exact g1⟩
  | mp lv ks vs =>
    obtain ⟨u, us, e, h1, _⟩ := h
    injection e with e1 e2
    subst e1
    unfold RV at h1
    cases hm : c.m[o]? with
    | none => rw [hm] at h1; exact h1.elim
    | some ob' =>
      cases hb : c.β[o]? with
      | none => rw [hm, hb] at h1; cases ob' <;> first | exact h1.elim | exact .inl rfl
      | some l' =>
        rw [hm, hb] at h1
        cases ob' <;> first | exact h1.elim | exact .inl rfl | skip
        simp only [Value.map.injEq, Option.some.injEq] at h1
        exact .inr ⟨_, _, _, l', rfl, rfl, h1.symm⟩
theorem plc_out {c : Cx} : ∀ (m : List Ob) (β : List Lc) (k : Nat), β.length = m.length → RVs c (plc k m) (plv m β) → ∀ i ob l, m[i]? = some ob → β[i]? = some l → ob ≠ .dead → obLe (some ob) (some l) c.m[k + i]? c.β[k + i]?
  | [], β, k, _, _ => fun i ob l h => by simp at h
  | ob :: m, [], k, h, _ => by simp at h
  | ob :: m, l :: β, k, h, hr => by
    have hl : (plv1 l ob).length = (plc1 k ob).length := by cases ob <;> rfl
    obtain ⟨a1, a2⟩ := RVs.split hl hr
    intro i ob' l' h1 h2 hd
    cases i with
    | zero =>
      simp only [List.getElem?_cons_zero, Option.some.injEq] at h1 h2
      subst h1; subst h2
      exact plc1_out a1 hd
    | succ i =>
      have := plc_out m β (k + 1) (by simpa using h) a2 i ob' l' (by simpa using h1) (by simpa using h2) hd
      rwa [show k + 1 + i = k + (i + 1) by omega] at this

/-! ### a call that writes what the caller holds -/
/-- Function f, called with args over the objects m, comes to r, and turns the objects into m'. -/
def CT (P : Program) (f : FuncId) (args : List V) (m : List Ob) (r : V) (m' : List Ob) : Prop :=
  ∀ (w : World) (Zo : Nat → Prop) (β : List Lc) (us : List Value), Mem w Zo m β → RVs (cx w Zo m β) args us →
    Calls P f us.toArray w (fun e w' => ∃ v β', e = .returned v ∧ Frame (liveAt m β) w w' ∧ Mem w' Zo m' β' ∧ RVs (cx w' Zo m' β') (plc 0 m) (plv m β) ∧ RV (cx w' Zo m' β') r v ∧ ∀ b, liveAt m' β' b → liveAt m β b ∨ w.heap.size ≤ b)
def lcVC (P : Program) (f : FuncId) (args : List V) (m : List Ob) (K : V → List Ob → Prop) : Prop :=
  ∃ ks fs r m', bodyOK P f = true ∧ ks.Nodup ∧ (∀ q ∈ ks, q < m.length) ∧ (∀ q ∈ ks, ((frzM fs m).getD q .hole).refs (· ∈ ks)) ∧ (∀ q ∈ ks, (frzM fs m).getD q .hole ≠ .dead) ∧ Refs (· ∈ ks) (convs (frzM fs m) args) ∧ ks.length ≤ m'.length ∧
    CT P f (rens (idx ks) (convs (frzM fs m) args)) (sel ks (frzM fs m)) r m' ∧ K (r.ren (sg ks m.length)) (bk (frzM fs m) ks (m'.map (Ob.ren (sg ks m.length))))
section
variable {P : Program} {o : Oper} {st : St} {K : St → Prop}
theorem s_callL {f : FuncId} {x : Operand} {args : Array Operand} {ts : Array TypeId} {fs cs : List V} (ho : o.op = .call { callee := .value x, args := args, argTypes := ts }) (hf : St.ev st.t x = .fn f fs cs)
    (h : lcVC P f (fs ++ args.toList.map (St.ev st.t) ++ cs) st.m (fun r m' => K ⟨putT st.t o.dst r, m', st.g⟩)) : OW P o st K := by
  obtain ⟨ks, fz, r, m', hb, hn, hlt, hrf, hnd, hargs, hlen, hct, hk⟩ := h
  intro w0 E Zo gh a w Q ⟨β, M, hE, hF, hd, ht, hgh⟩
  have hbd : ∃ fn, P.funcs[f]? = some fn ∧ fn.body.isSome = true ∧ (fn.name == "runtime.NumGoroutine") = false := by
    unfold bodyOK at hb
    split at hb
    · rename_i fn hfn
      simp only [Bool.and_eq_true, Bool.not_eq_true'] at hb
      exact ⟨fn, hfn, hb.1, hb.2⟩
    · cases hb
  have hv := ev_RV ht x
  rw [hf] at hv
  obtain ⟨us, vs, e, h1, h2⟩ := hv
  have h3 := run_evs (a := a) (c := cx w Zo st.m β) (ev := St.ev st.t) args.toList (fun y hy => ev_RV ht y)
  have hall : RVs (cx w Zo st.m β) (fs ++ args.toList.map (St.ev st.t) ++ cs) ((us ++ args.map a.eval) ++ vs).toList := by
    have := (h1.append h3).append h2
    simpa using this
  obtain ⟨M1, hle1, hl1⟩ := M.frz fz
  have hlt1 : ∀ q ∈ ks, q < (frzM fz st.m).length := fun q hq => by rw [frzM_length]; exact hlt q hq
  have hall1 := convs_sound M1 _ _ (hall.mono hle1)
  obtain ⟨M2, htr, hl2⟩ := M1.sel (Zo' := others ks Zo (frzM fz st.m) β) ks hn hlt1 hrf (fun b hb => by
    rcases hb with hb | ⟨q, ob, l, _, a1, a2, a3⟩
    · exact .inl hb
    · exact .inr ⟨q, ob, l, a1, a2, a3⟩) (fun q ob l b hq a1 a2 a3 hz => by
    rcases hz with hz | ⟨q', ob', l', hq', b1, b2, b3⟩
    · exact M1.out b ⟨q, ob, l, a1, a2, a3⟩ hz
    · have := M1.sep q q' ob ob' l l' b a1 b1 a2 b2 a3 b3
      subst this
      exact hq' hq)
  have hall2 := RVs.tr htr _ _ hargs hall1
  have hcall := hct w _ _ _ M2 hall2
  have hexec : (execOp a.eval o).run P w = .ok (.enter f ((us ++ args.map a.eval) ++ vs)) w := by
    obtain ⟨fn, g1, g2, g3⟩ := hbd
    have g4 : fn.body.isNone = false := by cases hb : fn.body <;> simp_all
    simp only [execOp, ho, resolve, e, Deferred.ofValue, Sem.run_bind, Sem.run_pure, Result.andThen_ok, invoke, callFunc, run_program, g1, g3, g4]
    rfl
  unfold Oper.wp
  rw [hexec]
  rw [Oper.upon_enter]
  rw [Array.toArray_toList] at hcall
  refine hcall.mono ?_
  rintro e' w' ⟨v, β', rfl, G, M', hpl, hv', hl'⟩
  have hltb : ∀ q ∈ ks, q < β.length := fun q hq => by rw [M.len]; exact hlt q hq
  obtain ⟨J1, J2, J3, J4⟩ := M1.back hn hlt1 hlen G hl2 M' (fun i q hi => by
    have hq := List.mem_of_getElem? hi
    have a1 := sel_get (m := frzM fz st.m) hlt1 i
    have a2 := selL_get (β := β) hltb i
    rw [hi] at a1 a2
    simp only [Option.bind_some] at a1 a2
    have b1 : (frzM fz st.m)[q]? = some ((frzM fz st.m)[q]'(hlt1 q hq)) := List.getElem?_eq_getElem (hlt1 q hq)
    have b2 : β[q]? = some (β[q]'(hltb q hq)) := List.getElem?_eq_getElem (hltb q hq)
    rw [b1] at a1
    rw [b2] at a2
    have hnd' : (frzM fz st.m)[q]'(hlt1 q hq) ≠ .dead := by
      have := hnd q hq
      rwa [List.getD_eq_getElem?_getD, b1] at this
    have := plc_out _ _ 0 M2.len hpl i _ _ a1 a2 (fun h => hnd' (by
      cases hob : (frzM fz st.m)[q]'(hlt1 q hq) <;> rw [hob] at h <;> first | rfl | cases h))
    rw [Nat.zero_add] at this
    rw [b1, b2]
    exact obLe_unren (ρ := idx ks) this) hl'
  rw [frzM_length] at J1 J2 J3 J4
  have hleT := hle1.trans J2
  have hF2 : Frame E w0 w' := by
    refine ⟨G.os.trans hF.os, G.tape.trans hF.tape, G.output.trans hF.output, Nat.le_trans hF.size G.size, fun b hb hEb => ?_⟩
    rw [← hF.block b hb hEb]
    refine G.block b (Nat.lt_of_lt_of_le hb hF.size) fun hLb => ?_
    obtain ⟨q, _, ob, l, a1, a2, a3⟩ := hl2 b hLb
    rcases hE b (hl1 b ⟨q, ob, l, a1, a2, a3⟩) with h | h
    · exact hEb h
    · omega
  refine ⟨_, hk, _, J1, fun b hb => ?_, hF2, by cases o.dst <;> exact hd, (ht.mono hleT).put (RV.tr J3 r v (Ref.all r) hv') o.dst, hgh.mono hleT⟩
  rcases J4 b hb with h | h
  · exact hE b (hl1 b h)
  · exact .inr (Nat.le_trans hF.size h)
end
end Go.Pm
