/- The abstract machine: many cells written at once. -/
import Derived.Test.YtkdaijcdddomjaaPm13
set_option linter.unusedVariables false
set_option linter.unusedSimpArgs false
namespace Go.Pm
open Go.RowKit

section
variable {P : Program} {w : World} {Zo : Nat → Prop} {m : List Ob} {β : List Lc}
/-- Elements ys, written over those from p on. -/
theorem arr_write {q p sz : Nat} {l : Lc} {xs ys : List (List V)} {vs : List Value} {e : TypeId} {us : Array Value} {fr : Nat × Nat} (M : Mem w Zo m β) (hm : m[q]? = some (.arr true sz xs)) (hβ : β[q]? = some l) (hcap : l.cap ≠ 0)
    (k1 : w.heap[l.b]? = some (.cells us e fr)) (k2 : us.size = l.cap * sz) (k3 : NoFr us.size fr) (k4 : RR (cx w Zo m β) sz l.b 0 xs) (b1 : xs.length ≤ l.cap) (b2 : l.cap < 2 ^ 63) (hs : 0 < sz)
    (hp : p + ys.length ≤ xs.length) (hly : ∀ y ∈ ys, y.length = sz) (hvs : RVs (cx w Zo m β) ys.flatten vs) (h1 : ∀ v ∈ vs, v.oneCell' = true) :
    ∃ w', (storeCells ⟨l.b, p * sz, none⟩ vs).run P w = .ok () w' ∧ Same1 l.b w w' ∧ Mem w' Zo (m.set q (.arr true sz (xs.take p ++ ys ++ xs.drop (p + ys.length)))) β ∧ (cx w Zo m β).le (cx w' Zo (m.set q (.arr true sz (xs.take p ++ ys ++ xs.drop (p + ys.length)))) β) := by
  have hvl : vs.length = ys.length * sz := by rw [hvs.length, flatten_len hly]
  have hroom : p * sz + 0 + vs.length ≤ us.size := by
    rw [hvl, k2, Nat.add_zero, ← Nat.add_mul]; exact Nat.mul_le_mul_right _ (by omega)
  obtain ⟨w', us', g1, g2, g3, g4, g5⟩ := run_storeCells (P := P) l.b (p * sz) e fr vs 0 us w k1 k3 hroom h1
  simp only [Nat.add_zero] at g5
  have hblk : ∀ ys', (Ob.arr true sz ys').blk l = some l.b := fun ys' => by simp [Ob.blk, hcap]
  have hlen : (xs.take p ++ ys ++ xs.drop (p + ys.length)).length = xs.length := by simp; omega
  obtain ⟨us1, c1, d1, e1⟩ := (k4.take p).list
  obtain ⟨us3, c3, d3, e3⟩ := (k4.drop (p + ys.length)).list
  have htl : (xs.take p).length = p := by rw [List.length_take]; omega
  rw [htl] at d1
  have hT := M.turn (w' := w') (ob' := .arr true sz (xs.take p ++ ys ++ xs.drop (p + ys.length))) hm hβ (.inr ⟨_, _, rfl, rfl, by rw [hlen]; exact Nat.le_refl _⟩) (fun b hb => by rw [hblk] at hb ⊢; exact hb) g2.size (fun b hlt hne => g2.block b (fun e => hne (by rw [e]; exact hblk _)))
    (fun hle _ => by
      refine ⟨by rw [hlen]; exact b1, b2, hs, .inr ⟨us', e, fr, g3, by rw [g4, k2], by rw [g4]; exact k3, ?_, .inl rfl⟩⟩
      have hall : ∀ x ∈ xs.take p ++ ys ++ xs.drop (p + ys.length), x.length = sz := by
        intro x hx
        rcases List.mem_append.1 hx with hx | hx
        · rcases List.mem_append.1 hx with hx | hx
          · exact k4.length x (List.mem_of_mem_take hx)
          · exact hly x hx
        · exact k4.length x (List.mem_of_mem_drop hx)
      refine RR.of (us := us1 ++ vs ++ us3) hall ?_ ?_
      · rw [List.flatten_append, List.flatten_append]
        exact ((c1.mono hle).append (hvs.mono hle)).append (c3.mono hle)
      · intro j u hj
        show w'.cell? ⟨l.b, 0 + j, none⟩ = some u
        rw [cell_at g3, Nat.zero_add, g5, hvl]
        have hm2 : (p + ys.length) * sz = p * sz + ys.length * sz := Nat.add_mul _ _ _
        rcases Nat.lt_or_ge j (p * sz) with h | h
        · rw [if_neg (by omega)]
          rw [List.append_assoc, List.getElem?_append_left (by omega)] at hj
          have := e1 j u hj
          have this : w.cell? ⟨l.b, 0 + j, none⟩ = some u := this
          rw [cell_at k1, Nat.zero_add] at this
          exact this
        · rcases Nat.lt_or_ge j (p * sz + ys.length * sz) with h2 | h2
          · rw [if_pos ⟨h, h2⟩]
            rw [List.append_assoc, List.getElem?_append_right (by omega), List.getElem?_append_left (by omega), d1] at hj
            exact hj
          · rw [if_neg (by omega)]
            rw [List.getElem?_append_right (by simp; omega)] at hj
            have hj2 : us3[j - (p * sz + ys.length * sz)]? = some u := by
              rw [← hj]; congr 1; simp; omega
            have := e3 _ u hj2
            have this : w.cell? ⟨l.b, 0 + (p + ys.length) * sz + (j - (p * sz + ys.length * sz)), none⟩ = some u := this
            rw [cell_at k1, hm2] at this
            rw [show j = 0 + (p * sz + ys.length * sz) + (j - (p * sz + ys.length * sz)) by omega]
            exact this)
  exact ⟨w', g1, g2, hT.1, hT.2⟩
end
section
variable {P : Program} {o : Oper} {st : St} {K : St → Prop}
theorem set_same {α : Type} {l : List α} {i : Nat} {x : α} (h : l[i]? = some x) : l.set i x = l := by
  apply List.ext_getElem?
  intro j
  rw [List.getElem?_set]
  split
  · rename_i e; subst e
    rw [if_pos (List.getElem?_eq_some_iff.1 h).1]; exact h.symm
  · rfl
/-- A slice of an object, be its capacity known or not. -/
def AsAr (x : V) (q off len : Nat) : Prop := x = .ar q off len ∨ ∃ cap, x = .arc q off len cap
theorem AsAr.rv {x : V} {q off len : Nat} (h : AsAr x q off len) {c : Cx} {v : Value} (hv : RV c x v) : RV c (.ar q off len) v := by
  rcases h with rfl | ⟨cap, rfl⟩
  · exact hv
  · exact RV_arc hv
theorem s_clear {t e : TypeId} {x : Operand} {q off len sz : Nat} {ag : Bool} {zs : List V} {xs : List (List V)} (ho : o.op = .call { callee := .builtin .clear, args := #[x], argTypes := #[t] }) (he : elt P t = some e) (hl : lay P e = some (sz, ag)) (hs : 0 < sz) (hz : zer P e = some zs) (hzs : zs.length = sz)
    (hone : ∀ z ∈ zs, oneV st.m z = true) (hx : AsAr (St.ev st.t x) q off len) (hm : st.m[q]? = some (.arr true sz xs))
    (h : K ⟨putT st.t o.dst (.tup []), st.m.set q (.arr true sz (xs.take off ++ List.replicate len zs ++ xs.drop (off + len))), st.g⟩) : OW P o st K := by
  intro w0 E Zo gh a w Q ⟨β, M, hE, hF, hd, ht, hgh⟩
  have hvx := hx.rv (ev_RV ht x)
  obtain ⟨_, l, hβ, ⟨b1, b2, b3, b4⟩, b5, A', e1, b6⟩ := at_ar M (Agree.refl _) hm hvx
  obtain ⟨i, z, hi, hz', rfl⟩ := zer_out hz
  have hzsz : z.cells.size = sz := by simpa using hzs
  have hex : ∀ w2, (Builtin.clear_ #[t] o.type #[a.eval x]).run P w = .ok (.tuple #[]) w2 → (execOp a.eval o).run P w = .ok (.value (.tuple #[])) w2 := by
    intro w2 hv
    simp [execOp, ho, resolve, invoke, builtin, hv]
  by_cases h0 : len = 0
  · subst h0
    have hsame : st.m.set q (.arr true sz (xs.take off ++ List.replicate 0 (z.cells.toList.map ofVal1) ++ xs.drop (off + 0))) = st.m := by
      rw [List.replicate_zero, List.append_nil, Nat.add_zero, List.take_append_drop]
      exact set_same hm
    rw [hsame] at h
    have hr : (Builtin.clear_ #[t] o.type #[a.eval x]).run P w = .ok (.tuple #[]) w := by
      rw [e1]
      cases A' <;> simp [Builtin.clear_, run_und (elt_out he)]
    exact wp_value (hex w hr) ⟨_, h, β, M, hE, hF, by cases o.dst <;> exact hd, ht.put (x := .tup []) ⟨#[], rfl, rfl⟩ o.dst, hgh⟩
  · have hcap : l.cap ≠ 0 := by omega
    rcases b4 with b4 | ⟨us, e', fr, k1, k2, k3, k4, k5⟩
    · exact absurd b4 hcap
    have k1 : w.heap[l.b]? = some (.cells us e' fr) := k1
    have hA := b6 (by omega)
    subst hA
    have hzl : (Builtin.zeroCells z.cells len).toList = (List.replicate len z.cells.toList).flatten := by
      have := madeCells_list z.cells sz len hzsz hs
      rw [← this, ← hzsz]
      rfl
    have hvs : RVs (cx w Zo st.m β) (List.replicate len (z.cells.toList.map ofVal1)).flatten (Builtin.zeroCells z.cells len).toList := by
      rw [hzl]
      exact RVs_replicate (RVs_ofVal1 _ _) _
    have h1 : ∀ v ∈ (Builtin.zeroCells z.cells len).toList, v.oneCell' = true := by
      refine one_list M (Agree.refl _) (fun y hy => ?_) hvs
      obtain ⟨l2, hl2, hy⟩ := List.mem_flatten.1 hy
      rw [List.eq_of_mem_replicate hl2] at hy
      exact hone y hy
    obtain ⟨w', r1, r2, M', hle⟩ := arr_write (P := P) (p := off) (ys := List.replicate len (z.cells.toList.map ofVal1)) M hm hβ hcap k1 k2 k3 k4 b1 b2 hs (by simpa using b5) (fun y hy => by rw [List.eq_of_mem_replicate hy]; exact hzs) hvs h1
    rw [List.length_replicate] at M' hle
    have hr : (Builtin.clear_ #[t] o.type #[a.eval x]).run P w = .ok (.tuple #[]) w' := by
      rw [e1]
      obtain ⟨n, rfl⟩ : ∃ n, len = n + 1 := ⟨len - 1, by omega⟩
      simp [Builtin.clear_, run_und (elt_out he), run_zero hi hz', r1]
    refine wp_value (hex w' hr) ⟨_, h, β, M', ?_, r2.frame hF (hE _ ⟨q, _, l, hm, hβ, by simp [Ob.blk, hcap]⟩), by cases o.dst <;> exact hd, (ht.mono hle).put (x := .tup []) ⟨#[], rfl, rfl⟩ o.dst, hgh.mono hle⟩
    rintro b ⟨p, ob, l', h3, h4, h5⟩
    rcases getElem?_set_some h3 with ⟨e2, e3, _⟩ | ⟨hne, h3⟩
    · subst e2; subst e3
      rw [hβ] at h4; cases h4
      exact hE b ⟨_, _, l, hm, hβ, by simpa [Ob.blk, hcap] using h5⟩
    · exact hE b ⟨p, ob, l', h3, h4, h5⟩
end
end Go.Pm
