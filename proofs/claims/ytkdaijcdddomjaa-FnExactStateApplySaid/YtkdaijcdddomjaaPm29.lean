/- The abstract machine: an array's capacity comes to be known; an object dies, or gets a new number. -/
import Derived.Test.YtkdaijcdddomjaaPm28
set_option linter.unusedVariables false
set_option linter.unusedSimpArgs false
namespace Go.Pm
open Go.RowKit

section
variable {w : World} {Zo : Nat → Prop} {m : List Ob} {β : List Lc} {ob : Ob} {l : Lc} {q : Nat}
/-- An object gets a new number, and less of it is known. -/
theorem Mem.moveT {ob' : Ob} (M : Mem w Zo m β) (hm : m[q]? = some ob) (hl : β[q]? = some l) (hblk : ob'.blk l = ob.blk l) (hok : ∀ c, OK c l ob → OK c l ob') :
    Mem w Zo (m.set q .dead ++ [ob']) (β ++ [l]) ∧ (cx w Zo m β).le (cx w Zo (m.set q .dead ++ [ob']) (β ++ [l])) ∧ (∀ b, liveAt (m.set q .dead ++ [ob']) (β ++ [l]) b → liveAt m β b) := by
  have hq : q < m.length := (List.getElem?_eq_some_iff.1 hm).1
  have hlen : (m.set q .dead).length = β.length := by simp [M.len]
  have g : ∀ (p : Nat) (x : Ob) (r : Lc) (b : Nat), (m.set q .dead ++ [ob'])[p]? = some x → (β ++ [l])[p]? = some r → x.blk r = some b → (p ≠ q ∧ p < m.length ∧ m[p]? = some x ∧ β[p]? = some r) ∨ (p = m.length ∧ x = ob' ∧ r = l) := by
    intro p x r b h1 h2 h3
    rcases getElem?_append_one _ _ _ _ h1 with h1 | ⟨h1, e1⟩
    · have hp : p < m.length := by have := (List.getElem?_eq_some_iff.1 h1).1; simpa using this
      rcases getElem?_append_one _ _ _ _ h2 with h2 | ⟨h2, e2⟩
      · rcases getElem?_set_some h1 with ⟨e3, e4, _⟩ | ⟨hne, h1⟩
        · subst e4; simp [Ob.blk] at h3
        · exact .inl ⟨hne, hp, h1, h2⟩
      · rw [M.len] at h2; omega
    · rcases getElem?_append_one _ _ _ _ h2 with h2 | ⟨h2, e2⟩
      · have := (List.getElem?_eq_some_iff.1 h2).1
        rw [h1, hlen] at this; omega
      · exact .inr ⟨by rw [h1]; simp, e1, e2⟩
  have hlive : ∀ b, liveAt (m.set q .dead ++ [ob']) (β ++ [l]) b → liveAt m β b := by
    rintro b ⟨p, x, r, h1, h2, h3⟩
    rcases g p x r b h1 h2 h3 with ⟨_, _, a1, a2⟩ | ⟨_, rfl, rfl⟩
    · exact ⟨p, x, r, a1, a2, h3⟩
    · exact ⟨q, _, _, hm, hl, by rw [← hblk]; exact h3⟩
  have hle : (cx w Zo m β).le (cx w Zo (m.set q .dead ++ [ob']) (β ++ [l])) := by
    refine ⟨fun b hf => ⟨⟨hf.1, fun hz => hf.2 (hz.imp id (hlive b))⟩, rfl⟩, fun p _ => ?_⟩
    show obLe m[p]? β[p]? (m.set q .dead ++ [ob'])[p]? (β ++ [l])[p]?
    by_cases e : p = q
    · subst e
      rw [List.getElem?_append_left (by simpa using hq), List.getElem?_set_self hq, hm, hl]
      cases ob <;> first | trivial | rfl | exact .inl rfl
    · rcases Nat.lt_or_ge p m.length with h | h
      · rw [List.getElem?_append_left (by simpa using h), List.getElem?_set_ne (fun h => e h.symm), List.getElem?_append_left (by rw [M.len]; exact h)]
        exact obLe_refl _ _
      · rw [List.getElem?_eq_none h]
        unfold obLe
        split <;> simp_all
  refine ⟨⟨by simp [M.len], ?_, ?_, fun b h => M.out b (hlive b h), M.zlt⟩, hle, hlive⟩
  · intro p x r h1 h2
    rcases getElem?_append_one _ _ _ _ h1 with h1 | ⟨h1, e1⟩
    · have hp : p < m.length := by have := (List.getElem?_eq_some_iff.1 h1).1; simpa using this
      rcases getElem?_append_one _ _ _ _ h2 with h2 | ⟨h2, e2⟩
      · rcases getElem?_set_some h1 with ⟨e3, e4, _⟩ | ⟨hne, h1⟩
        · subst e4; trivial
        · exact (M.ok p x r h1 h2).mono hle (fun b hb => rfl)
      · rw [M.len] at h2; omega
    · rcases getElem?_append_one _ _ _ _ h2 with h2 | ⟨h2, e2⟩
      · have := (List.getElem?_eq_some_iff.1 h2).1
        rw [h1, hlen] at this; omega
      · subst e1; subst e2
        exact hok _ ((M.ok q _ _ hm hl).mono hle (fun b hb => rfl))
  · intro p p' x x' r r' b h1 h2 h3 h4 h5 h6
    rcases g p x r b h1 h3 h5 with ⟨a0, a1, a2, a3⟩ | ⟨a1, rfl, rfl⟩ <;> rcases g p' x' r' b h2 h4 h6 with ⟨b0, b1, b2, b3⟩ | ⟨b1, e1, e2⟩
    · exact M.sep _ _ _ _ _ _ b a2 b2 a3 b3 h5 h6
    · subst e1; subst e2
      exact absurd (M.sep _ _ _ _ _ _ b a2 hm a3 hl h5 (by rw [← hblk]; exact h6)) a0
    · exact absurd (M.sep _ _ _ _ _ _ b b2 hm b3 hl h6 (by rw [← hblk]; exact h5)) b0
    · omega
end
theorem RVs.set_same {c : Cx} {x : V} : ∀ {t : List V} {us : List Value} {i : Nat}, RVs c t us → (∀ u, us[i]? = some u → RV c x u) → RVs c (t.set i x) us
  | [], us, i, h, _ => h
  | y :: t, us, 0, ⟨u, us', e, h1, h2⟩, hx => ⟨u, us', e, hx u (by rw [e]; rfl), h2⟩
  | y :: t, us, i + 1, ⟨u, us', e, h1, h2⟩, hx => ⟨u, us', e, h1, RVs.set_same h2 fun u' hu => hx u' (by rw [e]; exact hu)⟩
theorem RVs_junk {c : Cx} : ∀ (n : Nat) (us : List Value), us.length = n → RVs c (List.replicate n .junk) us
  | 0, us, h => List.eq_nil_of_length_eq_zero h
  | n + 1, [], h => by simp at h
  | n + 1, u :: us, h => ⟨u, us, rfl, trivial, RVs_junk n us (by simpa using h)⟩
theorem flatten_junk (n sz : Nat) : (List.replicate n (List.replicate sz V.junk)).flatten = List.replicate (n * sz) .junk := by
  induction n with
  | zero => simp
  | succ n ih => rw [List.replicate_succ, List.flatten_cons, ih, List.replicate_append_replicate, Nat.succ_mul, Nat.add_comm]
/-- k elements of which nothing is known. -/
def junks (k sz : Nat) : List (List V) := List.replicate k (List.replicate sz .junk)
theorem junks_length (k sz : Nat) : (junks k sz).length = k := List.length_replicate
section
variable {P : Program} {code : Code} {t : List V} {m : List Ob} {g : List V} {Q : Exit → St → Prop}
theorem RVs_at {c : Cx} {t : List V} {us : List Value} {i : Nat} {x : V} (h : RVs c t us) (hx : t[i]? = some x) : ∀ u, us[i]? = some u → RV c x u := by
  intro u hu
  obtain ⟨u', h1, h2⟩ := h.get i hx
  rw [h1] at hu
  cases hu
  exact h2
/-- An array's capacity c comes to be known, and all of its cells. -/
theorem SW.reveal (i q n sz : Nat) (xs : List (List V)) (hx : t[i]? = some (.ar q 0 n)) (hm : m[q]? = some (.arr true sz xs))
    (h : ∀ c, xs.length ≤ c → c < 2 ^ 63 → SW P code ⟨t.set i (.arc q 0 n c), m.set q (.arr true sz (xs ++ junks (c - xs.length) sz)), g⟩ Q) : SW P code ⟨t, m, g⟩ Q := by
  intro w0 E Zo gh a w ⟨β, M, hE, hF, hd, ht, hgh⟩
  obtain ⟨l, hβ, ⟨b1, b2, b3, b4⟩⟩ := M.at_ hm
  have hlen : (xs ++ junks (l.cap - xs.length) sz).length = l.cap := by simp [junks_length]; omega
  have hblk : ∀ ys' : List (List V), (Ob.arr true sz ys').blk l = (Ob.arr true sz xs).blk l := fun ys' => rfl
  obtain ⟨M1, hle⟩ := M.turn (w' := w) (ob' := .arr true sz (xs ++ junks (l.cap - xs.length) sz)) hm hβ (.inr ⟨_, _, rfl, rfl, by simp⟩) (fun b hb => by rw [hblk] at hb; exact hb) rfl (fun _ _ _ => rfl)
    (fun hle _ => by
      refine ⟨by rw [hlen]; exact Nat.le_refl _, b2, b3, ?_⟩
      by_cases hc : l.cap = 0
      · exact .inl hc
      · rcases b4 with b4 | ⟨us, e, fr, k1, k2, k3, k4, k5⟩
        · exact absurd b4 hc
        · have k1 : w.heap[l.b]? = some (.cells us e fr) := k1
          refine .inr ⟨us, e, fr, k1, k2, k3, ?_, .inl rfl⟩
          refine RR.of (us := us.toList) ?_ ?_ ?_
          · intro x hx'
            rcases List.mem_append.1 hx' with hx' | hx'
            · exact k4.length x hx'
            · rw [List.eq_of_mem_replicate hx', List.length_replicate]
          · have hle1 : xs.length * sz ≤ us.size := by rw [k2]; exact Nat.mul_le_mul_right _ b1
            have h1 := rows_flat (c := cx w Zo m β) k1 k4 hle1
            have h2 : RVs (cx w Zo (m.set q (.arr true sz (xs ++ junks (l.cap - xs.length) sz))) β) (List.replicate ((l.cap - xs.length) * sz) .junk) (us.toList.drop (xs.length * sz)) := RVs_junk _ _ (by simp [k2, Nat.sub_mul])
            have h3 := (h1.mono hle).append h2
            rw [List.take_append_drop] at h3
            rw [List.flatten_append]
            unfold junks
            rw [flatten_junk]
            exact h3
          · intro j u hj
            show w.cell? ⟨l.b, 0 + j, none⟩ = some u
            rw [cell_at k1, Nat.zero_add]
            simpa using hj)
  have hlv : ∀ b, liveAt (m.set q (.arr true sz (xs ++ junks (l.cap - xs.length) sz))) β b → liveAt m β b := by
    rintro b ⟨p, ob, l', h3, h4, h5⟩
    rcases getElem?_set_some h3 with ⟨e2, e3, _⟩ | ⟨hne, h3⟩
    · subst e2; subst e3
      rw [hβ] at h4; cases h4
      exact ⟨_, _, l, hm, hβ, by rw [← hblk (xs ++ junks (l.cap - xs.length) sz)]; exact h5⟩
    · exact ⟨p, ob, l', h3, h4, h5⟩
  refine h l.cap b1 b2 w0 E Zo gh a w ⟨β, M1, fun b hb => hE b (hlv b hb), hF, hd, ?_, hgh.mono hle⟩
  refine (ht.mono hle).set_same fun u hu => ?_
  have hv := RVs_at ht hx u hu
  obtain ⟨_, l', hβ', _, g5, A', e1, g6⟩ := at_ar M (Agree.refl _) hm hv
  rw [hβ] at hβ'; cases hβ'
  refine RV_arc_mk (c := cx w Zo _ β) (List.getElem?_set_self (List.getElem?_eq_some_iff.1 hm).1) hβ (by omega) (by rw [hlen]; omega) (by rw [e1, Nat.sub_zero]) (fun hp => g6 (by omega))
/-- An object dies. -/
theorem SW.kill (q sz : Nat) (xs : List (List V)) (hm : m[q]? = some (.arr true sz xs)) (h : SW P code ⟨t, m.set q .dead, g⟩ Q) : SW P code ⟨t, m, g⟩ Q := by
  intro w0 E Zo gh a w ⟨β, M, hE, hF, hd, ht, hgh⟩
  obtain ⟨l, hβ, _⟩ := M.at_ hm
  obtain ⟨M1, hle⟩ := M.turn (w' := w) (ob' := .dead) hm hβ (.inl rfl) (fun b hb => by simp [Ob.blk] at hb) rfl (fun _ _ _ => rfl) (fun _ _ => trivial)
  refine h w0 E Zo gh a w ⟨β, M1, fun b hb => hE b ?_, hF, hd, ht.mono hle, hgh.mono hle⟩
  obtain ⟨p, ob, l', h3, h4, h5⟩ := hb
  rcases getElem?_set_some h3 with ⟨e2, e3, _⟩ | ⟨hne, h3⟩
  · subst e3; simp [Ob.blk] at h5
  · exact ⟨p, ob, l', h3, h4, h5⟩
/-- An array gets a new number, and is known up to k elements only. -/
theorem SW.renew (i k : Nat) {q off len cap sz : Nat} {xs : List (List V)} (hx : t[i]? = some (.arc q off len cap)) (hm : m[q]? = some (.arr true sz xs)) (h1 : off + len ≤ k) (h2 : k ≤ xs.length)
    (h : SW P code ⟨t.set i (.ar m.length off len), m.set q .dead ++ [.arr true sz (xs.take k)], g⟩ Q) : SW P code ⟨t, m, g⟩ Q := by
  intro w0 E Zo gh a w ⟨β, M, hE, hF, hd, ht, hgh⟩
  obtain ⟨l, hβ, _⟩ := M.at_ hm
  obtain ⟨M1, hle, hlv⟩ := M.moveT (ob' := .arr true sz (xs.take k)) hm hβ rfl (fun c ⟨b1, b2, b3, b4⟩ => by
    refine ⟨by rw [List.length_take]; omega, b2, b3, b4.imp id ?_⟩
    rintro ⟨us, e, fr, k1, k2, k3, k4, k5⟩
    exact ⟨us, e, fr, k1, k2, k3, k4.take k, k5⟩)
  refine h w0 E Zo gh a w ⟨β ++ [l], M1, fun b hb => hE b (hlv b hb), hF, hd, ?_, hgh.mono hle⟩
  refine (ht.mono hle).set_same fun u hu => ?_
  have hv := RVs_at ht hx u hu
  obtain ⟨_, l', hβ', _, g5, A', e1, g6⟩ := at_ar M (Agree.refl _) hm (RV_arc hv)
  rw [hβ] at hβ'; cases hβ'
  refine RV_ar (c := cx w Zo (m.set q .dead ++ [.arr true sz (xs.take k)]) (β ++ [l])) (lv := true) (sz := sz) (xs := xs.take k) (l := l) ?_ ?_ (by rw [List.length_take]; omega) e1 g6
  · show (m.set q .dead ++ [Ob.arr true sz (xs.take k)])[m.length]? = _
    rw [List.getElem?_append_right (by simp)]; simp
  · show (β ++ [l])[m.length]? = _
    rw [List.getElem?_append_right (by rw [M.len]; exact Nat.le_refl _), M.len]; simp
end
end Go.Pm
