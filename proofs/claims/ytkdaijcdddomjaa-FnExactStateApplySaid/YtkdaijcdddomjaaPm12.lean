/- The abstract machine: stores, appends. -/
import Derived.Test.YtkdaijcdddomjaaPm11
import Derived.Laws.Append
set_option linter.unusedVariables false
set_option linter.unusedSimpArgs false
namespace Go.Pm
open Go.RowKit

/-- All is as it was but for the heap; but for block b, the heap too. -/
structure Same1 (b : Nat) (w w' : World) : Prop where
  os : w'.os = w.os
  tape : w'.tape = w.tape
  output : w'.output = w.output
  size : w'.heap.size = w.heap.size
  block : ∀ i, i ≠ b → w'.heap[i]? = w.heap[i]?
theorem Same1.refl (b : Nat) (w : World) : Same1 b w w := ⟨rfl, rfl, rfl, rfl, fun _ _ => rfl⟩
theorem Same1.trans {b : Nat} {u v w : World} (h : Same1 b u v) (k : Same1 b v w) : Same1 b u w :=
  ⟨k.os.trans h.os, k.tape.trans h.tape, k.output.trans h.output, k.size.trans h.size, fun i hi => (k.block i hi).trans (h.block i hi)⟩
theorem Same1.frame {E : Nat → Prop} {b : Nat} {w0 w w' : World} (h : Frame E w0 w) (k : Same1 b w w') (hb : E b ∨ w0.heap.size ≤ b) : Frame E w0 w' := by
  refine ⟨k.os.trans h.os, k.tape.trans h.tape, k.output.trans h.output, by rw [k.size]; exact h.size, fun i hi hE => ?_⟩
  rw [k.block i ?_]
  · exact h.block i hi hE
  · rintro rfl
    rcases hb with hb | hb
    · exact hE hb
    · omega
section
variable {P : Program}
theorem heap_setCell_at (w : World) (b p : Nat) (us : Array Value) (e : TypeId) (fr : Nat × Nat) (v : Value) (h : w.heap[b]? = some (.cells us e fr)) : (w.setCell ⟨b, p, none⟩ v).heap[b]? = some (.cells (us.setIfInBounds p v) e fr) := by
  simp [World.setCell, Array.getElem?_modify, h]
theorem run_storeCells (b p : Nat) (e : TypeId) (fr : Nat × Nat) : ∀ (vs : List Value) (i : Nat) (us : Array Value) (w : World), w.heap[b]? = some (.cells us e fr) → NoFr us.size fr → p + i + vs.length ≤ us.size → (∀ v ∈ vs, v.oneCell' = true) →
    ∃ (w' : World) (us' : Array Value), (storeCells ⟨b, p, none⟩ vs i).run P w = .ok () w' ∧ Same1 b w w' ∧ w'.heap[b]? = some (.cells us' e fr) ∧ us'.size = us.size ∧
      ∀ q, us'[q]? = if p + i ≤ q ∧ q < p + i + vs.length then vs[q - (p + i)]? else us[q]?
  | [], i, us, w, h, _, _, _ => ⟨w, us, rfl, Same1.refl b w, h, rfl, fun q => by rw [if_neg (fun h => by have := h.2; simp at this; omega)]⟩
  | v :: vs, i, us, w, h, hf, hl, h1 => by
    have hl' : p + i + (vs.length + 1) ≤ us.size := by simpa using hl
    have hc : w.cell? ⟨b, p + i, none⟩ = some us[p + i] := by
      have : p + i < us.size := by omega
      simp [World.cell?, h, this]
    have hfz : w.frozen? ⟨b, p + i, none⟩ = false := by
      have := hf (p + i) (by omega)
      simp only [World.frozen?, h]
      simpa using this
    have hs : (store ((⟨b, p, none⟩ : Addr).add i) v).run P w = .ok () (w.setCell ⟨b, p + i, none⟩ v) := by
      rw [add_plain]
      show (store ⟨b, p + i, none⟩ v).run P w = _
      rw [run_store P w _ v _ (h1 v List.mem_cons_self), hc]
      simp [hfz]
    have h2 := heap_setCell_at w b (p + i) us e fr v h
    obtain ⟨w', us', g1, g2, g3, g4, g5⟩ := run_storeCells b p e fr vs (i + 1) _ _ h2 (by simpa using hf) (by simp; omega) (fun x hx => h1 x (List.mem_cons_of_mem _ hx))
    have hsame : Same1 b w (w.setCell ⟨b, p + i, none⟩ v) := ⟨rfl, rfl, rfl, by simp [World.setCell], fun j hj => Below.heap_setCell w ⟨b, p + i, none⟩ v j hj⟩
    refine ⟨w', us', ?_, hsame.trans g2, g3, by simpa using g4, fun q => ?_⟩
    · simp only [storeCells, Sem.run_bind, hs, Result.andThen_ok]
      exact g1
    · rw [g5 q]
      by_cases e1 : q = p + i
      · subst e1
        rw [if_neg (by omega), if_pos (by simp)]
        have : p + i < us.size := by omega
        simp [this]
      · by_cases e2 : p + (i + 1) ≤ q ∧ q < p + (i + 1) + vs.length
        · rw [if_pos e2, if_pos (by simp; omega)]
          obtain ⟨d, rfl⟩ : ∃ d, q = p + (i + 1) + d := ⟨q - (p + (i + 1)), by omega⟩
          rw [show p + (i + 1) + d - (p + (i + 1)) = d by omega, show p + (i + 1) + d - (p + i) = d + 1 by omega, List.getElem?_cons_succ]
        · rw [if_neg e2, if_neg (by simp; omega)]
          simp only [Array.getElem?_setIfInBounds]
          rw [if_neg (by omega)]
end
/-- Cells, place by place. -/
theorem RC.of_get {c : Cx} {b : Nat} : ∀ {cs : List V} {o : Nat}, (∀ j x, cs[j]? = some x → ∃ u, c.w.cell? ⟨b, o + j, none⟩ = some u ∧ RV c x u) → RC c b o cs
  | [], o, _ => trivial
  | y :: ys, o, h => by
    refine ⟨h 0 y rfl, RC.of_get fun j x hj => ?_⟩
    have := h (j + 1) x (by simpa using hj)
    rwa [Nat.add_assoc, Nat.add_comm 1 j]
theorem RR.of_get {c : Cx} {sz b : Nat} : ∀ {xs : List (List V)} {o : Nat}, (∀ i x, xs[i]? = some x → x.length = sz ∧ RC c b (o + i * sz) x) → RR c sz b o xs
  | [], o, _ => trivial
  | y :: ys, o, h => by
    have h0 := h 0 y rfl
    refine ⟨h0.1, by simpa using h0.2, RR.of_get fun i x hi => ?_⟩
    have := h (i + 1) x (by simpa using hi)
    rw [Nat.add_mul, Nat.one_mul] at this
    rwa [Nat.add_assoc, Nat.add_comm sz]
theorem cell_at {w : World} {b q : Nat} {us : Array Value} {e : TypeId} {fr : Nat × Nat} (h : w.heap[b]? = some (.cells us e fr)) : w.cell? ⟨b, q, none⟩ = us[q]? := by
  simp [World.cell?, h]
theorem one_list {w : World} {Zo : Nat → Prop} {m mT : List Ob} {β : List Lc} (M : Mem w Zo m β) (A : Agree mT m) : ∀ {ys : List V} {us : List Value}, (∀ y ∈ ys, oneV mT y = true) → RVs (cx w Zo m β) ys us → ∀ u ∈ us, u.oneCell' = true
  | [], us, _, h, u, hu => by rw [show us = [] from h] at hu; cases hu
  | y :: ys, us, h1, ⟨v, us', e, hv, hr⟩, u, hu => by
    subst e
    rcases List.mem_cons.1 hu with rfl | hu
    · exact one_cells M A (h1 y List.mem_cons_self) hv
    · exact one_list M A (fun z hz => h1 z (List.mem_cons_of_mem _ hz)) hr u hu
/-- New cells over old ones. -/
def over (cs : List V) (off : Nat) (ys : List V) : List V := cs.take off ++ ys ++ cs.drop (off + ys.length)
theorem over_length {cs : List V} {off : Nat} {ys : List V} (h : off + ys.length ≤ cs.length) : (over cs off ys).length = cs.length := by
  simp [over]; omega
theorem over_get {cs : List V} {off : Nat} {ys : List V} (h : off + ys.length ≤ cs.length) (j : Nat) : (over cs off ys)[j]? = if off ≤ j ∧ j < off + ys.length then ys[j - off]? else cs[j]? := by
  unfold over
  rcases Nat.lt_or_ge j off with h1 | h1
  · rw [if_neg (by omega), List.append_assoc, List.getElem?_append_left (by simp; omega), List.getElem?_take, if_pos h1]
  · rcases Nat.lt_or_ge j (off + ys.length) with h2 | h2
    · rw [if_pos ⟨h1, h2⟩, List.getElem?_append_left (by simp; omega), List.getElem?_append_right (by simp; omega)]
      congr 1
      simp; omega
    · rw [if_neg (by omega), List.getElem?_append_right (by simp; omega), List.getElem?_drop]
      congr 1
      simp; omega
section
variable {P : Program} {o : Oper} {st : St} {K : St → Prop}
/-- A store into a box. -/
theorem s_store_box {t : TypeId} {x y : Operand} {q off sz : Nat} {ag : Bool} {cs ys : List V} (ho : o.op = .store t x y) (hl : lay P t = some (sz, ag)) (hx : St.ev st.t x = .ptr q off) (hm : st.m[q]? = some (.box true cs)) (hy : cellsV st.m (St.ev st.t y) = some ys) (h1 : ∀ z ∈ ys, oneV st.m z = true) (hsz : ys.length = sz) (hb : off + ys.length ≤ cs.length)
    (h : K ⟨putT st.t o.dst .junk, st.m.set q (.box true (over cs off ys)), st.g⟩) : OW P o st K := by
  intro w0 E Zo gh a w Q ⟨β, M, hE, hF, hd, ht, hgh⟩
  have hvx := ev_RV ht x
  have hvy := ev_RV ht y
  rw [hx] at hvx
  obtain ⟨_, l, hβ, hOK, e1⟩ := at_ptr M (Agree.refl _) hm hvx (by simp)
  have hys := cellsV_sound (x := St.ev st.t y) M (Agree.refl _) hy hvy
  obtain ⟨us, e, fr, k1, k2, k3, k4, k5⟩ := hOK
  have k1 : w.heap[l.b]? = some (.cells us e fr) := k1
  have hvl : (a.eval y).cells.toList.length = ys.length := hys.length
  obtain ⟨w', us', g1, g2, g3, g4, g5⟩ := run_storeCells (P := P) l.b off e fr (a.eval y).cells.toList 0 us w k1 k3 (by rw [hvl, k2]; omega) (one_list M (Agree.refl _) h1 hys)
  simp only [Nat.add_zero] at g5
  have hexec : (execOp a.eval o).run P w = .ok .skip w' := by
    simp only [execOp, ho, Instr.storeAt, e1, Instr.sureAddr, storeVar, Sem.run_bind, Sem.run_pure, Result.andThen_ok, run_sz hl]
    rw [if_neg (by rw [← hsz, ← hvl]; simp)]
    rw [g1]
    rfl
  have hT := M.turn (w' := w') (ob' := .box true (over cs off ys)) hm hβ (.inr ⟨_, _, _, rfl, rfl, rfl⟩) (fun b hb => hb) g2.size (fun b hlt hne => g2.block b (fun e => hne (by rw [e]; rfl)))
    (fun hle _ => by
      refine ⟨us', e, fr, g3, by rw [g4, k2, over_length hb], by rw [g4]; exact k3, RC.of_get fun j z hj => ?_, .inl rfl⟩
      rw [show (cx w' Zo (st.m.set q (.box true (over cs off ys))) β).w = w' from rfl, cell_at g3, Nat.zero_add, g5 j, hvl]
      rw [over_get hb] at hj
      split at hj
      · rename_i hj1
        obtain ⟨u, q1, q2⟩ := hys.get _ hj
        rw [if_pos hj1]
        exact ⟨u, q1, q2.mono hle⟩
      · rename_i hj1
        rw [if_neg hj1]
        obtain ⟨u, q1, q2⟩ := k4.get j hj
        have q1 : w.cell? ⟨l.b, 0 + j, none⟩ = some u := q1
        rw [cell_at k1, Nat.zero_add] at q1
        exact ⟨u, q1, q2.mono hle⟩)
  obtain ⟨M', hle⟩ := hT
  unfold Oper.wp
  rw [hexec, Oper.upon_skip]
  refine ⟨_, h, β, M', ?_, g2.frame hF (hE _ ⟨q, _, l, hm, hβ, rfl⟩), by cases o.dst <;> exact hd, (ht.mono hle).put (x := .junk) trivial o.dst, hgh.mono hle⟩
  rintro b ⟨p, ob, l', h3, h4, h5⟩
  rcases getElem?_set_some h3 with ⟨e2, e3, _⟩ | ⟨hne, h3⟩
  · subst e2; subst e3
    rw [hβ] at h4; cases h4
    exact hE b ⟨_, _, l, hm, hβ, h5⟩
  · exact hE b ⟨p, ob, l', h3, h4, h5⟩
/-- A store into an element of a row. -/
theorem s_store_arr {t : TypeId} {x y : Operand} {q i off sz esz : Nat} {ag : Bool} {xs : List (List V)} {ys : List V} (ho : o.op = .store t x y) (hl : lay P t = some (sz, ag)) (hx : St.ev st.t x = .eptr q i off) (hm : st.m[q]? = some (.arr true esz xs)) (hi : i < xs.length) (hy : cellsV st.m (St.ev st.t y) = some ys) (h1 : ∀ z ∈ ys, oneV st.m z = true) (hsz : ys.length = sz) (hb : off + ys.length ≤ esz)
    (h : K ⟨putT st.t o.dst .junk, st.m.set q (.arr true esz (xs.set i (over (xs.getD i []) off ys))), st.g⟩) : OW P o st K := by
  intro w0 E Zo gh a w Q ⟨β, M, hE, hF, hd, ht, hgh⟩
  have hvx := ev_RV ht x
  have hvy := ev_RV ht y
  rw [hx] at hvx
  obtain ⟨_, l, hβ, hOK, e1⟩ := at_eptr M (Agree.refl _) hm hvx
  have hys := cellsV_sound (x := St.ev st.t y) M (Agree.refl _) hy hvy
  obtain ⟨b1, b2, b3, b4⟩ := hOK
  have hcap : l.cap ≠ 0 := by omega
  rcases b4 with b4 | ⟨us, e, fr, k1, k2, k3, k4, k5⟩
  · exact absurd b4 hcap
  have k1 : w.heap[l.b]? = some (.cells us e fr) := k1
  have hvl : (a.eval y).cells.toList.length = ys.length := hys.length
  have hbnd : i * esz + off + ys.length ≤ us.size := by
    have : (i + 1) * esz ≤ l.cap * esz := Nat.mul_le_mul_right _ (by omega)
    rw [Nat.add_mul, Nat.one_mul] at this
    omega
  obtain ⟨w', us', g1, g2, g3, g4, g5⟩ := run_storeCells (P := P) l.b (i * esz + off) e fr (a.eval y).cells.toList 0 us w k1 k3 (by rw [hvl]; omega) (one_list M (Agree.refl _) h1 hys)
  simp only [Nat.add_zero] at g5
  have hexec : (execOp a.eval o).run P w = .ok .skip w' := by
    simp only [execOp, ho, Instr.storeAt, e1, Instr.sureAddr, storeVar, Sem.run_bind, Sem.run_pure, Result.andThen_ok, run_sz hl]
    rw [if_neg (by rw [← hsz, ← hvl]; simp)]
    rw [g1]
    rfl
  have hxl : (xs.getD i []).length = esz := by
    rw [List.getD_eq_getElem?_getD, List.getElem?_eq_getElem hi]
    exact (k4.get i (List.getElem?_eq_getElem hi)).1
  have hblk : ∀ ys', (Ob.arr true esz ys').blk l = some l.b := fun ys' => by simp [Ob.blk, hcap]
  have hT := M.turn (w' := w') (ob' := .arr true esz (xs.set i (over (xs.getD i []) off ys))) hm hβ (.inr ⟨_, _, rfl, rfl, by simp⟩) (fun b hb => by rw [hblk] at hb ⊢; exact hb) g2.size (fun b hlt hne => g2.block b (fun e => hne (by rw [e]; exact hblk _)))
    (fun hle _ => by
      refine ⟨by simpa using b1, b2, b3, .inr ⟨us', e, fr, g3, by rw [g4, k2], by rw [g4]; exact k3, RR.of_get fun j x hj => ?_, .inl rfl⟩⟩
      rcases getElem?_set_some hj with ⟨e2, e3, _⟩ | ⟨hne, hj⟩
      · subst e2; subst e3
        refine ⟨by rw [over_length (by omega), hxl], RC.of_get fun r z hr => ?_⟩
        rw [show (cx w' Zo (st.m.set q (.arr true esz (xs.set j (over (xs.getD j []) off ys)))) β).w = w' from rfl, cell_at g3, Nat.zero_add, g5, hvl]
        have hr1 : r < esz := by
          have := (List.getElem?_eq_some_iff.1 hr).1
          rw [over_length (by omega), hxl] at this
          exact this
        rw [over_get (by omega)] at hr
        split at hr
        · rename_i hj1
          obtain ⟨u, q1, q2⟩ := hys.get _ hr
          rw [if_pos (by omega)]
          exact ⟨u, by rw [show j * esz + r - (j * esz + off) = r - off by omega]; exact q1, q2.mono hle⟩
        · rename_i hj1
          rw [if_neg (by omega)]
          have h5 := k4.at_ hi
          rw [Nat.zero_add] at h5
          obtain ⟨u, q1, q2⟩ := h5.get r hr
          have q1 : w.cell? ⟨l.b, j * esz + r, none⟩ = some u := q1
          rw [cell_at k1] at q1
          exact ⟨u, q1, q2.mono hle⟩
      · obtain ⟨p1, p2⟩ := k4.get j hj
        refine ⟨p1, RC.of_get fun r z hr => ?_⟩
        have hr1 : r < esz := by
          have := (List.getElem?_eq_some_iff.1 hr).1
          omega
        rw [show (cx w' Zo (st.m.set q (.arr true esz (xs.set i (over (xs.getD i []) off ys)))) β).w = w' from rfl, cell_at g3, Nat.zero_add, g5, hvl]
        have hapart : ¬ (i * esz + off ≤ j * esz + r ∧ j * esz + r < i * esz + off + ys.length) := by
          intro hh
          rcases Nat.lt_trichotomy j i with h | h | h
          · have : (j + 1) * esz ≤ i * esz := Nat.mul_le_mul_right _ h
            rw [Nat.add_mul, Nat.one_mul] at this
            omega
          · exact hne h
          · have : (i + 1) * esz ≤ j * esz := Nat.mul_le_mul_right _ h
            rw [Nat.add_mul, Nat.one_mul] at this
            omega
        rw [if_neg hapart]
        rw [Nat.zero_add] at p2
        obtain ⟨u, q1, q2⟩ := p2.get r hr
        have q1 : w.cell? ⟨l.b, j * esz + r, none⟩ = some u := q1
        rw [cell_at k1] at q1
        exact ⟨u, q1, q2.mono hle⟩)
  obtain ⟨M', hle⟩ := hT
  unfold Oper.wp
  rw [hexec, Oper.upon_skip]
  refine ⟨_, h, β, M', ?_, g2.frame hF (hE _ ⟨q, _, l, hm, hβ, hblk _⟩), by cases o.dst <;> exact hd, (ht.mono hle).put (x := .junk) trivial o.dst, hgh.mono hle⟩
  rintro b ⟨p, ob, l', h3, h4, h5⟩
  rcases getElem?_set_some h3 with ⟨e2, e3, _⟩ | ⟨hne, h3⟩
  · subst e2; subst e3
    rw [hβ] at h4; cases h4
    rw [hblk] at h5
    exact hE b ⟨_, _, l, hm, hβ, by rw [hblk]; exact h5⟩
  · exact hE b ⟨p, ob, l', h3, h4, h5⟩
end
end Go.Pm
