/- The abstract machine: appends. -/
import Derived.Test.YtkdaijcdddomjaaPm12
set_option linter.unusedVariables false
set_option linter.unusedSimpArgs false
namespace Go.Pm
open Go.RowKit

theorem RV_ar {c : Cx} {o off len sz : Nat} {lv : Bool} {xs : List (List V)} {l : Lc} {v : Value} {A : Option Addr} (hm : c.m[o]? = some (.arr lv sz xs)) (hβ : c.β[o]? = some l) (h1 : off + len ≤ xs.length) (h2 : v = .slice A len (l.cap - off)) (h3 : off < l.cap → A = some ⟨l.b, off * sz, none⟩) : RV c (.ar o off len) v := by
  unfold RV
  rw [hm, hβ]
  exact ⟨h1, A, h2, h3⟩
section
variable {w : World} {Zo : Nat → Prop} {m : List Ob} {β : List Lc} {ob : Ob} {l : Lc} {q : Nat}
/-- An object gets a new number. -/
theorem Mem.move (M : Mem w Zo m β) (hm : m[q]? = some ob) (hl : β[q]? = some l) :
    Mem w Zo (m.set q .dead ++ [ob]) (β ++ [l]) ∧ (cx w Zo m β).le (cx w Zo (m.set q .dead ++ [ob]) (β ++ [l])) ∧ (∀ b, liveAt (m.set q .dead ++ [ob]) (β ++ [l]) b → liveAt m β b) := by
  have hq : q < m.length := (List.getElem?_eq_some_iff.1 hm).1
  have hlen : (m.set q .dead).length = β.length := by simp [M.len]
  have g : ∀ (p : Nat) (x : Ob) (r : Lc) (b : Nat), (m.set q .dead ++ [ob])[p]? = some x → (β ++ [l])[p]? = some r → x.blk r = some b → (p ≠ q ∧ p < m.length ∧ m[p]? = some x ∧ β[p]? = some r) ∨ (p = m.length ∧ x = ob ∧ r = l) := by
    intro p x r b h1 h2 h3
    rcases getElem?_append_one _ _ _ _ h1 with h1 | ⟨h1, e1⟩
    · have hp : p < m.length := by have := (List.getElem?_eq_some_iff.1 h1).1; simpa using this
      rcases getElem?_append_one _ _ _ _ h2 with h2 | ⟨h2, e2⟩
      · rcases getElem?_set_some h1 with ⟨e3, e4, _⟩ | ⟨hne, h1⟩
        · subst e4; simp [Ob.blk] at h3
        · exact .inl ⟨hne, hp, h1, h2⟩
      · rw [M.len] at h2; omega
    · rcases getElem?_append_one _ _ _ _ h2 with h2 | ⟨h2, e2⟩
      · have := (List.getElem?_eq_some_iff.1 h2).1
        rw [h1, hlen] at this; omega
      · exact .inr ⟨by rw [h1]; simp, e1, e2⟩
  have hlive : ∀ b, liveAt (m.set q .dead ++ [ob]) (β ++ [l]) b → liveAt m β b := by
    rintro b ⟨p, x, r, h1, h2, h3⟩
    rcases g p x r b h1 h2 h3 with ⟨_, _, a1, a2⟩ | ⟨_, rfl, rfl⟩
    · exact ⟨p, x, r, a1, a2, h3⟩
    · exact ⟨q, _, _, hm, hl, h3⟩
  have hle : (cx w Zo m β).le (cx w Zo (m.set q .dead ++ [ob]) (β ++ [l])) := by
    refine ⟨fun b hf => ⟨⟨hf.1, fun hz => hf.2 (hz.imp id (hlive b))⟩, rfl⟩, fun p _ => ?_⟩
    show obLe m[p]? β[p]? (m.set q .dead ++ [ob])[p]? (β ++ [l])[p]?
    by_cases e : p = q
    · subst e
      rw [List.getElem?_append_left (by simpa using hq), List.getElem?_set_self hq, hm, hl]
      cases ob <;> first | trivial | rfl | exact .inl rfl
    · rcases Nat.lt_or_ge p m.length with h | h
      · rw [List.getElem?_append_left (by simpa using h), List.getElem?_set_ne (fun h => e h.symm), List.getElem?_append_left (by rw [M.len]; exact h)]
        exact obLe_refl _ _
      · rw [List.getElem?_eq_none h]
        unfold obLe
        split <;> simp_all
  refine ⟨⟨by simp [M.len], ?_, ?_, fun b h => M.out b (hlive b h), M.zlt⟩, hle, hlive⟩
  · intro p x r h1 h2
    rcases getElem?_append_one _ _ _ _ h1 with h1 | ⟨h1, e1⟩
    · have hp : p < m.length := by have := (List.getElem?_eq_some_iff.1 h1).1; simpa using this
      rcases getElem?_append_one _ _ _ _ h2 with h2 | ⟨h2, e2⟩
      · rcases getElem?_set_some h1 with ⟨e3, e4, _⟩ | ⟨hne, h1⟩
        · subst e4; trivial
        · exact (M.ok p x r h1 h2).mono hle (fun b hb => rfl)
      · rw [M.len] at h2; omega
    · rcases getElem?_append_one _ _ _ _ h2 with h2 | ⟨h2, e2⟩
      · have := (List.getElem?_eq_some_iff.1 h2).1
        rw [h1, hlen] at this; omega
      · subst e1; subst e2
        exact (M.ok q _ _ hm hl).mono hle (fun b hb => rfl)
  · intro p p' x x' r r' b h1 h2 h3 h4 h5 h6
    rcases g p x r b h1 h3 h5 with ⟨a0, a1, a2, a3⟩ | ⟨a1, rfl, rfl⟩ <;> rcases g p' x' r' b h2 h4 h6 with ⟨b0, b1, b2, b3⟩ | ⟨b1, e1, e2⟩
    · exact M.sep _ _ _ _ _ _ b a2 b2 a3 b3 h5 h6
    · subst e1; subst e2
      exact absurd (M.sep _ _ _ _ _ _ b a2 hm a3 hl h5 h6) a0
    · exact absurd (M.sep _ _ _ _ _ _ b b2 hm b3 hl h6 h5) b0
    · omega
end

section
variable {P : Program}
theorem run_firstCells {w : World} {sz n : Nat} {A : Option Addr} {cp : Nat} {us : List Value} (hn : us.length = n * sz) (h : n = 0 ∨ ∃ b p, A = some ⟨b, p, none⟩ ∧ ∀ j u, us[j]? = some u → w.cell? ⟨b, p + j, none⟩ = some u) (k : Nat) :
    (Builtin.firstCells sz n (.slice A k cp)).run P w = .ok us.toArray w := by
  rcases h with rfl | ⟨b, p, rfl, h⟩
  · have : us = [] := List.eq_nil_of_length_eq_zero (by simpa using hn)
    subst this
    cases A <;> simp [Builtin.firstCells, loadCells, loadCellsFrom]
  · have := run_loadCells_list (P := P) w ⟨b, p, none⟩ us (fun j v hj => by rw [add_plain]; exact h j v hj)
    rw [hn] at this
    simpa [Builtin.firstCells] using this
theorem zeroCells_size (z : Array Value) (n : Nat) : (Builtin.zeroCells z n).size = n * z.size := by simp [Builtin.zeroCells]
/-- A slice's or a string's type. -/
def seqT (P : Program) (t : TypeId) : Bool := match P.underlying t with
  | some (.slice _) => true
  | some .string => true
  | _ => false
variable {w : World} {t t' ty e : TypeId} {i : TypeInfo} {z : Value} {base : Option Addr} {n cap k : Nat} {xv : Value} {news olds : Array Value}
theorem run_append_fits {w' : World} (ht : P.underlying t = some (.slice e)) (hi : P.info? e = some i) (he' : seqT P t' = true) (hk : (Builtin.lenOf xv).run P w = .ok k w) (hc : (Builtin.firstCells i.size k xv).run P w = .ok news w) (hfit : n + k ≤ cap)
    (hst : ∀ a, base = some a → (storeCells (a.add (n * i.size)) news.toList).run P w = .ok () w') (hst0 : base = none → w' = w) :
    (Builtin.append_ #[t, t'] ty #[.slice base n cap, xv]).run P w = .ok (.slice base (n + k) cap) w' := by
  unfold seqT at he'
  split at he'
  · rename_i e2 h2
    cases base with
    | none => rw [hst0 rfl]; simp [Builtin.append_, run_und ht, run_und h2, sizeOf, typeInfo, hi, hk, hc, hfit]
    | some a => simp [Builtin.append_, run_und ht, run_und h2, sizeOf, typeInfo, hi, hk, hc, hfit, hst a rfl]
  · rename_i h2
    cases base with
    | none => rw [hst0 rfl]; simp [Builtin.append_, run_und ht, run_und h2, sizeOf, typeInfo, hi, hk, hc, hfit]
    | some a => simp [Builtin.append_, run_und ht, run_und h2, sizeOf, typeInfo, hi, hk, hc, hfit, hst a rfl]
  · cases he'
theorem run_append_grows (ht : P.underlying t = some (.slice e)) (hi : P.info? e = some i) (hz : i.zero = some z) (he' : seqT P t' = true) (hk : (Builtin.lenOf xv).run P w = .ok k w) (hc : (Builtin.firstCells i.size k xv).run P w.drew = .ok news w.drew) (ho : (Builtin.firstCells i.size n (.slice base n cap)).run P w.drew = .ok olds w.drew) (hfit : cap < n + k)
    (h63 : ((n + k : Nat) : Int) ≤ 9223372036854775807) (h48 : Builtin.nextslicecap (n + k) cap * i.bytes ≤ 281474976710656) :
    (Builtin.append_ #[t, t'] ty #[.slice base n cap, xv]).run P w = .ok (.slice (some ⟨w.heap.size, 0, none⟩) (n + k) (grownCap w (n + k) cap e)) (w.drew.alloc (.cells (olds ++ news ++ Builtin.zeroCells z.cells (grownCap w (n + k) cap e - (n + k))) e)) := by
  have hn : ¬ (n + k ≤ cap) := by omega
  have h63' : ¬ (9223372036854775807 < ((n : Int) + (k : Int))) := by omega
  have h48' : ¬ (281474976710656 < Builtin.nextslicecap (n + k) cap * i.bytes) := by omega
  have e1 : ({ w with drawn := w.drawn + 1 } : World) = w.drew := rfl
  unfold seqT at he'
  split at he'
  · rename_i e2 h2
    simp [Builtin.append_, run_und ht, run_und h2, sizeOf, typeInfo, zeroValue, hi, hz, hk, hn, h63', h48', Question.forced, e1, hc, ho, newRow, grownCap]
  · rename_i h2
    simp [Builtin.append_, run_und ht, run_und h2, sizeOf, typeInfo, zeroValue, hi, hz, hk, hn, h63', h48', Question.forced, e1, hc, ho, newRow, grownCap]
  · cases he'
end

/-- What an append takes its new elements from. -/
def Src (P : Program) (mT : List Ob) (sz : Nat) (x : V) (ys : List (List V)) : Prop :=
  ∀ (w : World) (Zo : Nat → Prop) (m : List Ob) (β : List Lc) (v : Value), Mem w Zo m β → Agree mT m → RV (cx w Zo m β) x v →
    ∃ us : List Value, RVs (cx w Zo m β) ys.flatten us ∧ (Builtin.lenOf v).run P w = .ok ys.length w ∧ ∀ w2 : World, w2.heap = w.heap → (Builtin.firstCells sz ys.length v).run P w2 = .ok us.toArray w2
theorem src_elems {P : Program} {mT : List Ob} {sz : Nat} {x : V} {ys : List (List V)} (h : elemsV mT x = some ys) (hl : ∀ y ∈ ys, y.length = sz) : Src P mT sz x ys := by
  intro w Zo m β v M A hv
  obtain ⟨A', cp, e1, g1, g2, g3⟩ := elems_at M A h hv
  rcases g3 with rfl | ⟨sz', b, p, _, rfl, hr⟩
  · exact ⟨[], rfl, by rw [e1]; rfl, fun w2 _ => by rw [e1]; exact run_firstCells (by simp) (.inl rfl) _⟩
  · obtain ⟨us, k1, k2, k3⟩ := hr.list
    refine ⟨us, k1, by rw [e1]; rfl, fun w2 hw => ?_⟩
    rw [e1]
    refine run_firstCells ?_ (.inr ⟨b, p, rfl, fun j u hj => ?_⟩) _
    · rw [k1.length, flatten_len hl]
    · have := k3 j u hj
      simp only [World.cell?, hw]
      exact this
/-- A string's bytes. -/
def bytesV (s : ByteArray) : List (List V) := s.data.toList.map fun b => [.int .u8 b.toNat]
theorem src_str {P : Program} {mT : List Ob} {s : ByteArray} : Src P mT 1 (.str s) (bytesV s) := by
  intro w Zo m β v M A hv
  have hv : v = .string s := hv
  subst hv
  have hfl : ∀ l : List UInt8, (l.map fun b => [V.int .u8 (b.toNat : Int)]).flatten = l.map fun b => V.int .u8 (b.toNat : Int) := by
    intro l
    induction l with
    | nil => rfl
    | cons b l ih => simp [ih]
  have hrv : ∀ l : List UInt8, RVs (cx w Zo m β) (l.map fun b => V.int .u8 (b.toNat : Int)) (l.map fun b => Value.int .u8 (b.toNat : Int)) := by
    intro l
    induction l with
    | nil => rfl
    | cons b l ih => exact ⟨_, _, rfl, rfl, ih⟩
  have hlen : (bytesV s).length = s.size := by simp [bytesV]
  refine ⟨s.data.toList.map fun b => Value.int .u8 (b.toNat : Int), by unfold bytesV; rw [hfl]; exact hrv _, by rw [hlen]; rfl, fun w2 _ => ?_⟩
  rw [hlen]
  simp only [Builtin.firstCells, Sem.run_pure]
  congr 1
  apply Array.ext'
  have : (s.extract 0 s.size).data = s.data := by
    simp
  rw [this]
  simp
section
variable {P : Program} {o : Oper} {st : St} {K : St → Prop}
theorem rows_flat {c : Cx} {sz b : Nat} {xs : List (List V)} {us : Array Value} {e : TypeId} {fr : Nat × Nat} (hw : c.w.heap[b]? = some (.cells us e fr)) (h : RR c sz b 0 xs) (hl : xs.length * sz ≤ us.size) : RVs c xs.flatten (us.toList.take (xs.length * sz)) := by
  obtain ⟨vs, k1, k2, k3⟩ := h.list
  have : vs = us.toList.take (xs.length * sz) := by
    apply List.ext_getElem?
    intro j
    rcases Nat.lt_or_ge j vs.length with hj | hj
    · have := k3 j _ (List.getElem?_eq_getElem hj)
      rw [cell_at hw, Nat.zero_add] at this
      rw [List.getElem?_eq_getElem hj, List.getElem?_take, if_pos (by omega)]
      simpa using this.symm
    · rw [List.getElem?_eq_none hj, List.getElem?_take, if_neg (by omega)]
  rw [← this]
  exact k1
theorem append_core {t t' e ty : TypeId} {x y : Operand} {q n sz : Nat} {ag : Bool} {zs : List V} {xs ys : List (List V)} (ho : o.op = .call { callee := .builtin .append, args := #[x, y], argTypes := #[t, t'] }) (he : elt P t = some e) (hl : lay P e = some (sz, ag)) (hs : 0 < sz) (hz : zer P e = some zs) (hzs : zs.length = sz) (hq : seqT P t' = true)
    (hm : st.m[q]? = some (.arr true sz xs)) (hn : xs.length = n) (hly : ∀ z ∈ ys, z.length = sz) (h1 : ∀ z ∈ ys.flatten, oneV st.m z = true) (hb1 : (n + ys.length) * P.bytesOf e ≤ 2 ^ 47) (hb2 : n + ys.length ≤ 2 ^ 62)
    (h : K ⟨putT st.t o.dst (.ar st.m.length 0 (n + ys.length)), st.m.set q .dead ++ [.arr true sz (xs ++ ys)], st.g⟩)
    {w0 w : World} {E Zo : Nat → Prop} {a : Act} {Q : Exit → Act → World → Prop} {β : List Lc} (M : Mem w Zo st.m β) (hE : ∀ b, liveAt st.m β b → E b ∨ w0.heap.size ≤ b) (hF : Frame E w0 w) (hd : a.defers = []) (ht : RVs (cx w Zo st.m β) st.t a.tmps.toList) {gh : List Value} (hgh : RVs (cx w Zo st.m β) st.g gh)
    (hvx : RV (cx w Zo st.m β) (.ar q 0 n) (a.eval x)) (hsrc : ∃ us : List Value, RVs (cx w Zo st.m β) ys.flatten us ∧ (Builtin.lenOf (a.eval y)).run P w = .ok ys.length w ∧ ∀ w2 : World, w2.heap = w.heap → (Builtin.firstCells sz ys.length (a.eval y)).run P w2 = .ok us.toArray w2) :
    o.wp P a w (fun a' w' => ∃ st', K st' ∧ Rel w0 E Zo gh st' a' w') Q := by
  obtain ⟨_, l, hβ, ⟨b1, b2, b3, b4⟩, b5, A', e1, b6⟩ := at_ar M (Agree.refl _) hm hvx
  rw [Nat.sub_zero] at e1
  obtain ⟨vs, s1, s2, s3⟩ := hsrc
  obtain ⟨i, d, g1, g2, g3, g4⟩ := lay_info hl
  obtain ⟨i', z, hi, hz', rfl⟩ := zer_out hz
  rw [g1] at hi; cases hi
  have hzsz : z.cells.size = sz := by simpa using hzs
  have hvl : vs.length = ys.length * sz := by rw [s1.length, flatten_len hly]
  have hone := one_list M (Agree.refl _) h1 s1
  have hbytes : P.bytesOf e = i.bytes := by simp [Program.bytesOf, g1]
  have hex : ∀ v w2, (Builtin.append_ #[t, t'] o.type #[a.eval x, a.eval y]).run P w = .ok v w2 → (execOp a.eval o).run P w = .ok (.value v) w2 := by
    intro v w2 hv
    simp [execOp, ho, resolve, invoke, builtin, hv]
  by_cases hfit : n + ys.length ≤ l.cap
  · -- in place
    by_cases hcap : l.cap = 0
    · -- nothing there, nothing new
      have hn0 : n = 0 := by omega
      have hy0 : ys = [] := List.eq_nil_of_length_eq_zero (by omega)
      subst hy0
      have hx0 : xs = [] := List.eq_nil_of_length_eq_zero (by omega)
      have hv0 : vs = [] := List.eq_nil_of_length_eq_zero (by simpa using hvl)
      subst hv0
      have hst : ∀ ad, A' = some ad → (storeCells (ad.add (n * i.size)) (#[] : Array Value).toList).run P w = .ok () w := fun ad _ => rfl
      have hr := run_append_fits (P := P) (ty := o.type) (elt_out he) g1 hq s2 (by rw [g3]; exact s3 w rfl) hfit hst (fun _ => rfl)
      obtain ⟨M2, hle2, hlv2⟩ := M.move hm hβ
      refine wp_value (v := .slice A' (n + [].length) l.cap) (w' := w) (hex _ _ (by rw [e1]; exact hr)) ?_
      have hob : Ob.arr true sz (xs ++ []) = Ob.arr true sz xs := by rw [List.append_nil]
      rw [hob] at h
      refine ⟨_, h, _, M2, fun b hb => hE b (hlv2 b hb), hF, by cases o.dst <;> exact hd, (ht.mono hle2).put ?_ o.dst, hgh.mono hle2⟩
      unfold RV
      rw [show (cx w Zo (st.m.set q .dead ++ [.arr true sz xs]) (β ++ [l])).m = st.m.set q .dead ++ [.arr true sz xs] from rfl, show (cx w Zo (st.m.set q .dead ++ [.arr true sz xs]) (β ++ [l])).β = β ++ [l] from rfl]
      rw [List.getElem?_append_right (by simp), List.getElem?_append_right (by rw [M.len]; exact Nat.le_refl _)]
      simp only [List.length_set, Nat.sub_self, List.getElem?_cons_zero, M.len]
      exact ⟨by simp; omega, A', by rw [Nat.sub_zero], fun hlt => by omega⟩
    · rcases b4 with b4 | ⟨us, e', fr, k1, k2, k3, k4, k5⟩
      · exact absurd b4 hcap
      have k1 : w.heap[l.b]? = some (.cells us e' fr) := k1
      have hA := b6 (by omega)
      subst hA
      rw [Nat.zero_mul] at e1
      have hroom : n * sz + vs.length ≤ us.size := by
        rw [hvl, k2, ← Nat.add_mul]; exact Nat.mul_le_mul_right _ hfit
      obtain ⟨w', us', r1, r2, r3, r4, r5⟩ := run_storeCells (P := P) l.b (n * sz) e' fr vs 0 us w k1 k3 (by omega) hone
      simp only [Nat.add_zero] at r5
      have hst : ∀ ad, (some (⟨l.b, 0, none⟩ : Addr)) = some ad → (storeCells (ad.add (n * i.size)) vs.toArray.toList).run P w = .ok () w' := by
        rintro ad he; cases he
        rw [add_plain, Nat.zero_add, g3]
        exact r1
      have hr := run_append_fits (P := P) (ty := o.type) (elt_out he) g1 hq s2 (by rw [g3]; exact s3 w rfl) hfit hst (fun h => by cases h)
      have hblk : ∀ ys', (Ob.arr true sz ys').blk l = some l.b := fun ys' => by simp [Ob.blk, hcap]
      obtain ⟨M1, hle1⟩ := M.turn (w' := w') (ob' := .arr true sz (xs ++ ys)) hm hβ (.inr ⟨_, _, rfl, rfl, by simp⟩) (fun b hb => by rw [hblk] at hb ⊢; exact hb) r2.size (fun b hlt hne => r2.block b (fun e => hne (by rw [e]; exact hblk _)))
        (fun hle _ => by
          refine ⟨by simp; omega, b2, b3, .inr ⟨us', e', fr, r3, by rw [r4, k2], by rw [r4]; exact k3, ?_, .inl rfl⟩⟩
          have hall : ∀ x ∈ xs ++ ys, x.length = sz := by
            intro x hx'
            rcases List.mem_append.1 hx' with h | h
            · exact k4.length x h
            · exact hly x h
          refine RR.of (us := us.toList.take (n * sz) ++ vs) hall ?_ ?_
          · rw [List.flatten_append]
            refine RVs.append ?_ (s1.mono hle)
            have := rows_flat (c := cx w Zo st.m β) k1 k4 (by rw [hn]; omega)
            rw [hn] at this
            exact this.mono hle
          · intro j u hj
            show w'.cell? ⟨l.b, 0 + j, none⟩ = some u
            rw [cell_at r3, Nat.zero_add, r5]
            have htl : (us.toList.take (n * sz)).length = n * sz := by simp; omega
            rcases Nat.lt_or_ge j (n * sz) with hlt | hge
            · rw [if_neg (by omega)]
              rw [List.getElem?_append_left (by omega), List.getElem?_take, if_pos hlt] at hj
              simpa using hj
            · rw [List.getElem?_append_right (by omega), htl] at hj
              have := (List.getElem?_eq_some_iff.1 hj).1
              rw [if_pos (by omega)]
              exact hj)
      have hm1 : (st.m.set q (.arr true sz (xs ++ ys)))[q]? = some (.arr true sz (xs ++ ys)) := List.getElem?_set_self (List.getElem?_eq_some_iff.1 hm).1
      obtain ⟨M2, hle2, hlv2⟩ := M1.move hm1 hβ
      have hset : ((st.m.set q (.arr true sz (xs ++ ys))).set q .dead) = st.m.set q .dead := by simp
      rw [hset] at M2 hle2 hlv2
      refine wp_value (v := .slice (some ⟨l.b, 0, none⟩) (n + ys.length) l.cap) (w' := w') (hex _ _ (by rw [e1]; exact hr)) ?_
      refine ⟨_, h, _, M2, ?_, r2.frame hF (hE _ ⟨q, _, l, hm, hβ, hblk _⟩), by cases o.dst <;> exact hd, (ht.mono (hle1.trans hle2)).put ?_ o.dst, hgh.mono (hle1.trans hle2)⟩
      · intro b hb
        obtain ⟨p, ob, l', h3, h4, h5⟩ := hlv2 b hb
        rcases getElem?_set_some h3 with ⟨e2, e3, _⟩ | ⟨hne, h3⟩
        · subst e2; subst e3
          rw [hβ] at h4; cases h4
          rw [hblk] at h5
          exact hE b ⟨_, _, l, hm, hβ, by rw [hblk]; exact h5⟩
        · exact hE b ⟨p, ob, l', h3, h4, h5⟩
      · unfold RV
        rw [show (cx w' Zo (st.m.set q .dead ++ [.arr true sz (xs ++ ys)]) (β ++ [l])).m = st.m.set q .dead ++ [.arr true sz (xs ++ ys)] from rfl, show (cx w' Zo (st.m.set q .dead ++ [.arr true sz (xs ++ ys)]) (β ++ [l])).β = β ++ [l] from rfl]
        rw [List.getElem?_append_right (by simp), List.getElem?_append_right (by rw [M.len]; exact Nat.le_refl _)]
        simp only [List.length_set, Nat.sub_self, List.getElem?_cons_zero, M.len]
        exact ⟨by simp; omega, _, by rw [Nat.sub_zero], fun hlt => by rw [Nat.zero_mul]⟩
  · -- a new row
    have hold : ∃ olds : List Value, RVs (cx w Zo st.m β) xs.flatten olds ∧ (Builtin.firstCells i.size n (.slice A' n l.cap)).run P w.drew = .ok olds.toArray w.drew := by
      by_cases hx0 : n = 0
      · have : xs = [] := List.eq_nil_of_length_eq_zero (by omega)
        subst this
        exact ⟨[], rfl, run_firstCells (by simp [hx0]) (.inl hx0) _⟩
      · rcases b4 with b4 | ⟨us, e', fr, k1, k2, k3, k4, k5⟩
        · omega
        · obtain ⟨os, j1, j2, j3⟩ := k4.list
          refine ⟨os, j1, ?_⟩
          have hA : A' = some ⟨l.b, 0, none⟩ := by have := b6 (by omega); rwa [Nat.zero_mul] at this
          rw [g3]
          exact run_firstCells (w := w.drew) (by rw [j2, hn]) (.inr ⟨l.b, 0, hA, fun j u hj => (show w.cell? _ = some u from j3 j u hj)⟩) _
    obtain ⟨olds, o1, o2⟩ := hold
    have h48 := growslice_fits (need := n + ys.length) (old := l.cap) (bytes := i.bytes) (by omega) (by rw [hbytes] at hb1; omega)
    have hr := run_append_grows (P := P) (ty := o.type) (elt_out he) g1 hz' hq s2 (by rw [g3]; exact s3 w.drew rfl) o2 (by omega) (by omega) h48
    have hge := grownCap_ge w (n + ys.length) l.cap e
    have hlem := grownCap_le_maxLen w (n + ys.length) l.cap e (by unfold maxLen; omega)
    have hxs : ∀ x ∈ xs, x.length = sz := by
      intro y hy
      rcases b4 with b4 | ⟨us, e', fr, k1, k2, k3, k4, k5⟩
      · have : xs = [] := List.eq_nil_of_length_eq_zero (by omega)
        subst this; cases hy
      · exact k4.length y hy
    have hol : olds.length = n * sz := by rw [o1.length, flatten_len hxs, hn]
    -- the elder row dies, the new one is laid
    obtain ⟨M1, hle1⟩ := M.turn (w' := w) (ob' := .dead) hm hβ (.inl rfl) (fun b hb => by simp [Ob.blk] at hb) rfl (fun _ _ _ => rfl) (fun _ _ => trivial)
    obtain ⟨M2, hle2⟩ := M1.holes 1
    let cells : Array Value := olds.toArray ++ vs.toArray ++ Builtin.zeroCells z.cells (grownCap w (n + ys.length) l.cap e - (n + ys.length))
    have hcs : cells.size = grownCap w (n + ys.length) l.cap e * sz := by
      simp only [cells, Array.size_append, List.size_toArray, zeroCells_size, hol, hvl, hzsz, ← Nat.add_mul]
      congr 1; omega
    have hG : Grow w (w.drew.alloc (.cells cells e)) := (Grow.drew w).trans (Grow.alloc w.drew _)
    have hhole : (st.m.set q .dead ++ List.replicate 1 Ob.hole)[st.m.length]? = some .hole := by
      rw [List.getElem?_append_right (by simp)]; simp
    have hsetm : (st.m.set q .dead ++ List.replicate 1 Ob.hole).set st.m.length (.arr true sz (xs ++ ys)) = st.m.set q .dead ++ [.arr true sz (xs ++ ys)] := by
      rw [List.set_append_right _ _ (by simp)]; simp
    have hxl : ∀ x ∈ xs ++ ys, x.length = sz := by
      intro y hy
      rcases List.mem_append.1 hy with h | h
      · rcases b4 with b4 | ⟨us, e', fr, k1, k2, k3, k4, k5⟩
        · have : xs = [] := List.eq_nil_of_length_eq_zero (by omega)
          subst this; cases h
        · exact k4.length y h
      · exact hly y h
    obtain ⟨M3, hle3⟩ := M2.fill (w' := w.drew.alloc (.cells cells e)) (ob := .arr true sz (xs ++ ys)) (l := ⟨w.heap.size, grownCap w (n + ys.length) l.cap e⟩) hhole hG (fun b hb => by simp only [Ob.blk] at hb; split at hb <;> simp at hb; omega)
      (fun hle => by
        refine ⟨by simp; omega, by unfold maxLen at hlem; show grownCap w (n + ys.length) l.cap e < 2 ^ 63; omega, hs, .inr ⟨cells, e, (0, 0), heap_new w.drew _, hcs, NoFr.zero _, ?_, .inl rfl⟩⟩
        refine RR.of (us := olds ++ vs) hxl ?_ fun j u hj => ?_
        · rw [List.flatten_append]
          exact ((o1.append s1).mono (hle1.trans (hle2.trans hle)))
        · show (w.drew.alloc (.cells cells e)).cell? ⟨w.drew.heap.size, 0 + j, none⟩ = some u
          rw [cell_new, Nat.zero_add]
          have hlt := (List.getElem?_eq_some_iff.1 hj).1
          have : cells.toList[j]? = some u := by
            simp only [cells, Array.toList_append]
            rw [List.getElem?_append_left (by simpa using hlt)]
            exact hj
          simpa using this)
    rw [hsetm] at M3 hle3
    refine wp_value (v := .slice (some ⟨w.heap.size, 0, none⟩) (n + ys.length) (grownCap w (n + ys.length) l.cap e)) (w' := w.drew.alloc (.cells cells e)) (hex _ _ (by rw [e1]; exact hr)) ?_
    refine ⟨_, h, _, M3, ?_, hF.trans (hG.mono (fun _ q => q.elim)), by cases o.dst <;> exact hd, (ht.mono (hle1.trans (hle2.trans hle3))).put ?_ o.dst, hgh.mono (hle1.trans (hle2.trans hle3))⟩
    · rintro b ⟨p, ob, l', h3, h4, h5⟩
      rcases getElem?_append_one _ _ _ _ h3 with h3 | ⟨g5, e3⟩
      · rcases getElem?_set_some h3 with ⟨e2, e3, _⟩ | ⟨hne, h3'⟩
        · subst e3; simp [Ob.blk] at h5
        · have hp := (List.getElem?_eq_some_iff.1 h3').1
          rw [List.getElem?_set_ne (by omega), List.getElem?_append_left (by rw [M.len]; exact hp)] at h4
          exact hE b ⟨p, ob, l', h3', h4, h5⟩
      · subst e3
        have hp : p = st.m.length := by rw [g5]; simp
        subst hp
        rw [List.getElem?_set_self (by simp [M.len])] at h4
        cases h4
        simp only [Ob.blk] at h5
        split at h5
        · cases h5
        · simp at h5; subst h5; exact .inr hF.size
    · refine RV_ar (xs := xs ++ ys) (lv := true) (sz := sz) (l := ⟨w.heap.size, grownCap w (n + ys.length) l.cap e⟩) ?_ ?_ (by rw [List.length_append]; omega) (by rw [Nat.sub_zero]) (fun _ => by rw [Nat.zero_mul])
      · show (st.m.set q .dead ++ [Ob.arr true sz (xs ++ ys)])[st.m.length]? = _
        rw [List.getElem?_append_right (by simp)]
        simp
      · show ((β ++ List.replicate 1 _).set st.m.length _)[st.m.length]? = _
        rw [List.getElem?_set_self (by simp [M.len])]
/-- append(x, y...): x a row of one's own, whole. -/
theorem s_append {t t' e ty : TypeId} {x y : Operand} {q n sz : Nat} {ag : Bool} {zs : List V} {xs ys : List (List V)} (ho : o.op = .call { callee := .builtin .append, args := #[x, y], argTypes := #[t, t'] }) (he : elt P t = some e) (hl : lay P e = some (sz, ag)) (hs : 0 < sz) (hz : zer P e = some zs) (hzs : zs.length = sz) (hq : seqT P t' = true)
    (hx : St.ev st.t x = .ar q 0 n) (hm : st.m[q]? = some (.arr true sz xs)) (hn : xs.length = n) (hsrc : Src P st.m sz (St.ev st.t y) ys) (hly : ∀ z ∈ ys, z.length = sz) (h1 : ∀ z ∈ ys.flatten, oneV st.m z = true) (hb1 : (n + ys.length) * P.bytesOf e ≤ 2 ^ 47) (hb2 : n + ys.length ≤ 2 ^ 62)
    (h : K ⟨putT st.t o.dst (.ar st.m.length 0 (n + ys.length)), st.m.set q .dead ++ [.arr true sz (xs ++ ys)], st.g⟩) : OW P o st K := by
  intro w0 E Zo gh a w Q ⟨β, M, hE, hF, hd, ht, hgh⟩
  have hvx := ev_RV ht x
  rw [hx] at hvx
  exact append_core (ty := ty) ho he hl hs hz hzs hq hm hn hly h1 hb1 hb2 h M hE hF hd ht hgh hvx (hsrc w Zo st.m β _ M (Agree.refl _) (ev_RV ht y))
theorem oneV_app {m : List Ob} {x : V} (ob : Ob) (h : oneV m x = true) : oneV (m ++ [ob]) x = true := by
  have g : ∀ (o : Nat) (f : Option Ob → Bool), f none = false → f m[o]? = true → f (m ++ [ob])[o]? = true := by
    intro o f h0 h1
    rcases Nat.lt_or_ge o m.length with hlt | hge
    · rw [List.getElem?_append_left hlt]; exact h1
    · rw [List.getElem?_eq_none hge, h0] at h1; cases h1
  cases x <;> simp only [oneV] at h ⊢ <;> first
    | exact h
    | exact g _ (fun y => match y with | some (.arr _ _ _) => true | _ => false) rfl h
    | exact g _ (fun y => match y with | some (.box _ _) => true | _ => false) rfl h
    | exact g _ (fun y => match y with | some (.mp _ _ _) => true | _ => false) rfl h
/-- append(nil, y...). -/
theorem s_append_nil {t t' e ty : TypeId} {x y : Operand} {sz : Nat} {ag : Bool} {zs : List V} {ys : List (List V)} (ho : o.op = .call { callee := .builtin .append, args := #[x, y], argTypes := #[t, t'] }) (he : elt P t = some e) (hl : lay P e = some (sz, ag)) (hs : 0 < sz) (hz : zer P e = some zs) (hzs : zs.length = sz) (hq : seqT P t' = true)
    (hx : St.ev st.t x = .nil) (hsrc : Src P st.m sz (St.ev st.t y) ys) (hly : ∀ z ∈ ys, z.length = sz) (h1 : ∀ z ∈ ys.flatten, oneV st.m z = true) (hb1 : ys.length * P.bytesOf e ≤ 2 ^ 47) (hb2 : ys.length ≤ 2 ^ 62)
    (h : K ⟨putT st.t o.dst (.ar (st.m.length + 1) 0 ys.length), st.m ++ [.dead, .arr true sz ys], st.g⟩) : OW P o st K := by
  intro w0 E Zo gh a w Q ⟨β, M, hE, hF, hd, ht, hgh⟩
  have hvx := ev_RV ht x
  rw [hx] at hvx
  have hvx : a.eval x = .slice none 0 0 := hvx
  obtain ⟨us, s1, s2, s3⟩ := hsrc w Zo st.m β _ M (Agree.refl _) (ev_RV ht y)
  obtain ⟨M1, hle1⟩ := M.holes 1
  have hh : (st.m ++ List.replicate 1 Ob.hole)[st.m.length]? = some .hole := by
    rw [List.getElem?_append_right (Nat.le_refl _)]; simp
  have hset : (st.m ++ List.replicate 1 Ob.hole).set st.m.length (.arr true sz []) = st.m ++ [.arr true sz []] := by
    rw [List.set_append_right _ _ (Nat.le_refl _)]; simp
  obtain ⟨M2, hle2⟩ := M1.fill (w' := w) (ob := .arr true sz []) (l := ⟨0, 0⟩) hh (Grow.refl w) (fun b hb => by simp [Ob.blk] at hb) (fun _ => ⟨Nat.le_refl _, by show 0 < 2 ^ 63; omega, hs, .inl rfl⟩)
  rw [hset] at M2 hle2
  have hle := hle1.trans hle2
  have hm2 : (st.m ++ [Ob.arr true sz []])[st.m.length]? = some (.arr true sz []) := by
    rw [List.getElem?_append_right (Nat.le_refl _)]; simp
  refine append_core (st := ⟨st.t, st.m ++ [.arr true sz []], st.g⟩) (ty := ty) (n := 0) ho he hl hs hz hzs hq hm2 rfl hly (fun z hz => oneV_app _ (h1 z hz)) (by rw [Nat.zero_add]; exact hb1) (by omega) ?_ M2 ?_ hF hd (ht.mono hle) (hgh.mono hle) ?_ ⟨us, s1.mono hle, s2, s3⟩
  · have e1 : (st.m ++ [Ob.arr true sz []]).set st.m.length .dead ++ [Ob.arr true sz ([] ++ ys)] = st.m ++ [.dead, .arr true sz ys] := by
      rw [List.set_append_right _ _ (Nat.le_refl _)]; simp
    show K ⟨putT st.t o.dst (.ar (st.m ++ [Ob.arr true sz []]).length 0 (0 + ys.length)), (st.m ++ [Ob.arr true sz []]).set st.m.length .dead ++ [Ob.arr true sz ([] ++ ys)], st.g⟩
    rw [e1, Nat.zero_add, List.length_append]
    exact h
  · rintro b ⟨p, ob, l, g1, g2, g3⟩
    rcases getElem?_append_one _ _ _ _ g1 with g1 | ⟨g1, e⟩
    · have hp := (List.getElem?_eq_some_iff.1 g1).1
      rw [List.getElem?_set_ne (by omega), List.getElem?_append_left (by rw [M.len]; exact hp)] at g2
      exact hE b ⟨p, ob, l, g1, g2, g3⟩
    · rw [e] at g3
      rw [g1, List.getElem?_set_self (by simp [M.len])] at g2
      cases g2
      simp [Ob.blk] at g3
  · refine RV_ar (xs := []) (lv := true) (sz := sz) (l := ⟨0, 0⟩) (A := none) hm2 ?_ (by simp) hvx (fun h => by simp at h)
    show ((β ++ List.replicate 1 _).set st.m.length _)[st.m.length]? = _
    rw [List.getElem?_set_self (by simp [M.len])]
end
section
variable {P : Program} {o : Oper} {ev : Operand → V} {mT : List Ob} {base : Nat} {K : V → List Ob → Prop}
/-- append(x, y...), where x has no room: nothing that was there is written. -/
theorem q_append0 {t t' e : TypeId} {x y : Operand} {sz : Nat} {ag : Bool} {zs : List V} {ys : List (List V)} (ho : o.op = .call { callee := .builtin .append, args := #[x, y], argTypes := #[t, t'] }) (he : elt P t = some e) (hl : lay P e = some (sz, ag)) (hs : 0 < sz) (hz : zer P e = some zs) (hzs : zs.length = sz) (hq : seqT P t' = true)
    (hx : ev x = .nil ∨ ev x = .e0) (hsrc : Src P mT sz (ev y) ys) (hly : ∀ z ∈ ys, z.length = sz) (hb1 : ys.length * P.bytesOf e ≤ 2 ^ 47) (hb2 : ys.length ≤ 2 ^ 62)
    (h : K (.ar base 0 ys.length) [.arr true sz ys]) : Goal P o ev mT base K := by
  refine ⟨_, _, QS.new1 fun w Zo m β a M A hxs => ?_, h⟩
  rw [ho] at hxs
  have hvx0 := hxs x (by simp [Op.operands, Call.operands])
  have hvx : ∃ A', a.eval x = .slice A' 0 0 := by
    rcases hx with hx | hx
    · rw [hx] at hvx0; exact ⟨none, hvx0⟩
    · rw [hx] at hvx0; exact hvx0
  obtain ⟨A', e1⟩ := hvx
  obtain ⟨vs, s1, s2, s3⟩ := hsrc w Zo m β _ M A (hxs y (by simp [Op.operands, Call.operands]))
  obtain ⟨i, d, g1, g2, g3, g4⟩ := lay_info hl
  obtain ⟨i', z, hi, hz', rfl⟩ := zer_out hz
  rw [g1] at hi; cases hi
  have hzsz : z.cells.size = sz := by simpa using hzs
  have hvl : vs.length = ys.length * sz := by rw [s1.length, flatten_len hly]
  have hbytes : P.bytesOf e = i.bytes := by simp [Program.bytesOf, g1]
  have hex : ∀ v w2, (Builtin.append_ #[t, t'] o.type #[a.eval x, a.eval y]).run P w = .ok v w2 → (execOp a.eval o).run P w = .ok (.value v) w2 := by
    intro v w2 hv
    simp [execOp, ho, resolve, invoke, builtin, hv]
  by_cases hy0 : ys = []
  · subst hy0
    have hv0 : vs = [] := List.eq_nil_of_length_eq_zero (by simpa using hvl)
    subst hv0
    have hst : ∀ ad, A' = some ad → (storeCells (ad.add (0 * i.size)) (#[] : Array Value).toList).run P w = .ok () w := fun ad _ => rfl
    have hr := run_append_fits (P := P) (ty := o.type) (cap := 0) (n := 0) (k := 0) (elt_out he) g1 hq s2 (by rw [g3]; exact s3 w rfl) (Nat.le_refl _) hst (fun _ => rfl)
    refine ⟨.slice A' 0 0, w, ⟨0, 0⟩, hex _ _ (by rw [e1]; exact hr), Grow.refl w, fun b hb => by simp [Ob.blk] at hb, ?_⟩
    intro c' hle hw hm hβ hob
    refine ⟨⟨Nat.le_refl _, by show 0 < 2 ^ 63; omega, hs, .inl rfl⟩, ?_⟩
    unfold RV
    rw [hob, hβ]
    exact ⟨Nat.le_refl _, A', rfl, fun h => by simp at h⟩
  · have hpos : 0 < ys.length := List.length_pos_iff.2 hy0
    have h48 := growslice_fits (need := 0 + ys.length) (old := 0) (bytes := i.bytes) (by omega) (by rw [hbytes] at hb1; rw [Nat.zero_add]; exact hb1)
    have hr := run_append_grows (P := P) (ty := o.type) (base := A') (n := 0) (cap := 0) (olds := #[]) (elt_out he) g1 hz' hq s2 (by rw [g3]; exact s3 w.drew rfl) (run_firstCells (us := []) (by simp) (.inl rfl) _) (by omega) (by omega) h48
    have hge := grownCap_ge w (0 + ys.length) 0 e
    have hlem := grownCap_le_maxLen w (0 + ys.length) 0 e (by unfold maxLen; omega)
    generalize hcp : grownCap w (0 + ys.length) 0 e = cp at hr hge hlem
    generalize hcells : ((#[] : Array Value) ++ vs.toArray ++ Builtin.zeroCells z.cells (cp - (0 + ys.length))) = cells at hr
    have hcs : cells.size = cp * sz := by
      rw [← hcells]
      simp only [Array.size_append, List.size_toArray, zeroCells_size, hvl, hzsz, List.length_nil, Nat.zero_add]
      rw [← Nat.add_mul]
      congr 1; omega
    have hG : Grow w (w.drew.alloc (.cells cells e)) := (Grow.drew w).trans (Grow.alloc w.drew _)
    refine ⟨_, _, ⟨w.heap.size, cp⟩, hex _ _ (by rw [e1]; exact hr), hG, fun b hb => ?_, ?_⟩
    · simp only [Ob.blk] at hb
      split at hb
      · cases hb
      · simp at hb; omega
    intro c' hle hw hm hβ hob
    refine ⟨⟨by show ys.length ≤ cp; omega, by unfold maxLen at hlem; show cp < 2 ^ 63; omega, hs, .inr ⟨cells, e, (0, 0), by rw [hw]; exact heap_new w.drew _, hcs, NoFr.zero _, ?_, .inl rfl⟩⟩, ?_⟩
    · refine RR.of (us := vs) hly (s1.mono hle) fun j u hj => ?_
      show c'.w.cell? ⟨w.drew.heap.size, 0 + j, none⟩ = some u
      rw [hw, cell_new, Nat.zero_add]
      have hlt := (List.getElem?_eq_some_iff.1 hj).1
      have : cells.toList[j]? = some u := by
        rw [← hcells]
        simp only [Array.toList_append, Array.toList_empty, List.nil_append]
        rw [List.getElem?_append_left (by simpa using hlt)]
        exact hj
      simpa using this
    · unfold RV
      rw [hob, hβ]
      exact ⟨by omega, _, by rw [Nat.sub_zero, Nat.zero_add], fun _ => by rw [Nat.zero_mul]⟩
end
end Go.Pm
