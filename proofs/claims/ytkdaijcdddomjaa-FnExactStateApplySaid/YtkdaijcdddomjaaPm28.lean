/- The abstract machine: copies, appends to slices whose capacity is known, and whether two slices overlap. -/
import Derived.Test.YtkdaijcdddomjaaPm26
import Derived.Laws.Externs
import Derived.Lib.Overlaps
set_option linter.unusedVariables false
set_option linter.unusedSimpArgs false
namespace Go.Pm
open Go.RowKit

section
variable {P : Program} {o : Oper} {st : St} {K : St → Prop}
/-- The first cells of a slice. -/
theorem first_cells {w : World} {Zo : Nat → Prop} {m : List Ob} {β : List Lc} (M : Mem w Zo m β) {y : V} {v : Value} {ys : List (List V)} {sz : Nat} (hy : elemsV m y = some ys) (hv : RV (cx w Zo m β) y v) {n : Nat} (hly : ∀ z ∈ ys.take n, z.length = sz) (hn : n ≤ ys.length) :
    ∃ us : List Value, RVs (cx w Zo m β) (ys.take n).flatten us ∧ us.length = n * sz ∧ (Builtin.lenOf v).run P w = .ok ys.length w ∧ (Builtin.firstCells sz n v).run P w = .ok us.toArray w := by
  obtain ⟨A', cp, e1, g1, g2, g3⟩ := elems_at M (Agree.refl _) hy hv
  have hln : (ys.take n).length = n := by rw [List.length_take]; omega
  have hlt := hly
  rcases g3 with rfl | ⟨sz', b, p, _, rfl, hr⟩
  · have hn0 : n = 0 := by simpa using hn
    subst hn0
    exact ⟨[], rfl, by simp, by rw [e1]; rfl, by rw [e1]; exact run_firstCells (by simp) (.inl rfl) _⟩
  · obtain ⟨us, k1, k2, k3⟩ := (hr.take n).list
    have hul : us.length = n * sz := by rw [k1.length, flatten_len hlt, hln]
    refine ⟨us, k1, hul, by rw [e1]; rfl, ?_⟩
    rw [e1]
    exact run_firstCells hul (.inr ⟨b, p, rfl, fun j u hj => k3 j u hj⟩) _
theorem s_copy {t t' e : TypeId} {x y : Operand} {q off len sz : Nat} {ag : Bool} {xs ys : List (List V)} (ho : o.op = .call { callee := .builtin .copy, args := #[x, y], argTypes := #[t, t'] }) (he : elt P t = some e) (hl : lay P e = some (sz, ag)) (hs : 0 < sz)
    (hx : AsAr (St.ev st.t x) q off len) (hm : st.m[q]? = some (.arr true sz xs)) (hy : elemsV st.m (St.ev st.t y) = some ys) (hly : ∀ z ∈ ys.take (Nat.min ys.length len), z.length = sz) (h1 : ∀ z ∈ (ys.take (Nat.min ys.length len)).flatten, oneV st.m z = true)
    (h : K ⟨putT st.t o.dst (.int .i64 (Nat.min ys.length len : Nat)), st.m.set q (.arr true sz (xs.take off ++ ys.take (Nat.min ys.length len) ++ xs.drop (off + Nat.min ys.length len))), st.g⟩) : OW P o st K := by
  intro w0 E Zo gh a w Q ⟨β, M, hE, hF, hd, ht, hgh⟩
  have hvx := hx.rv (ev_RV ht x)
  obtain ⟨_, l, hβ, ⟨b1, b2, b3, b4⟩, b5, A', e1, b6⟩ := at_ar M (Agree.refl _) hm hvx
  have hnl : Nat.min ys.length len ≤ ys.length := Nat.min_le_left _ _
  have hnl2 : Nat.min ys.length len ≤ len := Nat.min_le_right _ _
  obtain ⟨us, c1, c2, c3, c4⟩ := first_cells (P := P) M hy (ev_RV ht y) hly hnl
  generalize hn : Nat.min ys.length len = n at *
  have hex : ∀ v w2, (Builtin.copy_ #[t, t'] o.type #[a.eval x, a.eval y]).run P w = .ok v w2 → (execOp a.eval o).run P w = .ok (.value v) w2 := by
    intro v w2 hv
    simp [execOp, ho, resolve, invoke, builtin, hv]
  have hln : (ys.take n).length = n := by rw [List.length_take]; omega
  by_cases h0 : n = 0
  · subst h0
    have hsame : st.m.set q (.arr true sz (xs.take off ++ ys.take 0 ++ xs.drop (off + 0))) = st.m := by
      rw [List.take_zero, List.append_nil, Nat.add_zero, List.take_append_drop]
      exact set_same hm
    rw [hsame] at h
    have hu0 : us = [] := List.eq_nil_of_length_eq_zero (by simpa using c2)
    subst hu0
    have hr : (Builtin.copy_ #[t, t'] o.type #[a.eval x, a.eval y]).run P w = .ok (.int .i64 ((0 : Nat) : Int)) w := by
      rw [e1]
      cases A' <;> simp [Builtin.copy_, run_und (elt_out he), run_sz hl, c3, hn, c4, goInt, storeCells]
    exact wp_value (hex _ w hr) ⟨_, h, β, M, hE, hF, by cases o.dst <;> exact hd, ht.put (x := .int .i64 ((0 : Nat) : Int)) rfl o.dst, hgh⟩
  · have hcap : l.cap ≠ 0 := by omega
    rcases b4 with b4 | ⟨us2, e', fr, k1, k2, k3, k4, k5⟩
    · exact absurd b4 hcap
    have k1 : w.heap[l.b]? = some (.cells us2 e' fr) := k1
    have hA := b6 (by omega)
    subst hA
    have hone : ∀ v ∈ us, v.oneCell' = true := one_list M (Agree.refl _) (fun z hz => h1 z hz) c1
    obtain ⟨w', r1, r2, M', hle⟩ := arr_write (P := P) (p := off) (ys := ys.take n) M hm hβ hcap k1 k2 k3 k4 b1 b2 hs (by rw [hln]; omega) hly c1 hone
    rw [hln] at M' hle
    have hr : (Builtin.copy_ #[t, t'] o.type #[a.eval x, a.eval y]).run P w = .ok (.int .i64 (n : Int)) w' := by
      rw [e1]
      simp [Builtin.copy_, run_und (elt_out he), run_sz hl, c3, hn, c4, goInt, r1]
    refine wp_value (hex _ w' hr) ⟨_, h, β, M', ?_, r2.frame hF (hE _ ⟨q, _, l, hm, hβ, by simp [Ob.blk, hcap]⟩), by cases o.dst <;> exact hd, (ht.mono hle).put (x := .int .i64 (n : Int)) rfl o.dst, hgh.mono hle⟩
    rintro b ⟨p, ob, l', h3, h4, h5⟩
    rcases getElem?_set_some h3 with ⟨e2, e3, _⟩ | ⟨hne, h3⟩
    · subst e2; subst e3
      rw [hβ] at h4; cases h4
      exact hE b ⟨_, _, l, hm, hβ, by simpa [Ob.blk, hcap] using h5⟩
    · exact hE b ⟨p, ob, l', h3, h4, h5⟩
theorem RV_arc_mk {c : Cx} {o off len cap sz : Nat} {lv : Bool} {xs : List (List V)} {l : Lc} {v : Value} {A : Option Addr} (hm : c.m[o]? = some (.arr lv sz xs)) (hβ : c.β[o]? = some l) (h0 : l.cap = off + cap) (h1 : off + len ≤ xs.length) (h2 : v = .slice A len cap) (h3 : 0 < cap → A = some ⟨l.b, off * sz, none⟩) : RV c (.arc o off len cap) v := by
  unfold RV
  rw [hm, hβ]
  exact ⟨h0, h1, A, h2, h3⟩
/-- append(x, y...), where there is room. -/
theorem s_append_arc {t t' e ty : TypeId} {x y : Operand} {q off len cap sz : Nat} {ag : Bool} {zs : List V} {xs ys : List (List V)} (ho : o.op = .call { callee := .builtin .append, args := #[x, y], argTypes := #[t, t'] }) (he : elt P t = some e) (hl : lay P e = some (sz, ag)) (hs : 0 < sz) (hz : zer P e = some zs) (hzs : zs.length = sz) (hq : seqT P t' = true)
    (hx : St.ev st.t x = .arc q off len cap) (hm : st.m[q]? = some (.arr true sz xs)) (hsrc : Src P st.m sz (St.ev st.t y) ys) (hly : ∀ z ∈ ys, z.length = sz) (h1 : ∀ z ∈ ys.flatten, oneV st.m z = true) (hb1 : len + ys.length ≤ cap) (hb2 : off + len + ys.length ≤ xs.length)
    (h : K ⟨putT st.t o.dst (.arc q off (len + ys.length) cap), st.m.set q (.arr true sz (xs.take (off + len) ++ ys ++ xs.drop (off + len + ys.length))), st.g⟩) : OW P o st K := by
  intro w0 E Zo gh a w Q ⟨β, M, hE, hF, hd, ht, hgh⟩
  have hvx := ev_RV ht x
  rw [hx] at hvx
  obtain ⟨_, l, hβ, ⟨b1, b2, b3, b4⟩, b5, A', e1, b6⟩ := at_ar M (Agree.refl _) hm (RV_arc hvx)
  have hc := RV_arc_cap hvx hm hβ
  have hc' : l.cap - off = cap := by omega
  rw [hc'] at e1
  obtain ⟨us, s1, s2, s3⟩ := hsrc w Zo st.m β _ M (Agree.refl _) (ev_RV ht y)
  obtain ⟨i, z, hi, hz', rfl⟩ := zer_out hz
  have hisz : i.size = sz := by
    have := run_sz (w := w) hl
    simp [sizeOf, typeInfo, hi] at this
    exact this
  have hex : ∀ v w2, (Builtin.append_ #[t, t'] o.type #[a.eval x, a.eval y]).run P w = .ok v w2 → (execOp a.eval o).run P w = .ok (.value v) w2 := by
    intro v w2 hv
    simp [execOp, ho, resolve, invoke, builtin, hv]
  have hlen : (xs.take (off + len) ++ ys ++ xs.drop (off + len + ys.length)).length = xs.length := by simp; omega
  by_cases h0 : cap = 0
  · have hy0 : ys = [] := List.eq_nil_of_length_eq_zero (by omega)
    subst hy0
    have hus : us = [] := s1
    subst hus
    have hsame : st.m.set q (.arr true sz (xs.take (off + len) ++ [] ++ xs.drop (off + len + ([] : List (List V)).length))) = st.m := by
      rw [List.append_nil, List.length_nil, Nat.add_zero, List.take_append_drop]
      exact set_same hm
    rw [hsame] at h
    have hr := run_append_fits (P := P) (ty := o.type) (base := A') (n := len) (cap := cap) (w' := w) (elt_out he) hi hq s2 (by rw [hisz]; exact s3 w rfl) hb1 (fun ad _ => rfl) (fun _ => rfl)
    refine wp_value (hex _ w (by rw [e1]; exact hr)) ⟨_, h, β, M, hE, hF, by cases o.dst <;> exact hd, ht.put ?_ o.dst, hgh⟩
    exact RV_arc_mk (c := cx w Zo st.m β) hm hβ hc (by simpa using b5) rfl (fun hp => by omega)
  · have hcap : l.cap ≠ 0 := by omega
    rcases b4 with b4 | ⟨us2, e', fr, k1, k2, k3, k4, k5⟩
    · exact absurd b4 hcap
    have k1 : w.heap[l.b]? = some (.cells us2 e' fr) := k1
    have hA := b6 (by omega)
    subst hA
    have hone : ∀ v ∈ us, v.oneCell' = true := one_list M (Agree.refl _) (fun z hz => h1 z hz) s1
    obtain ⟨w', r1, r2, M', hle⟩ := arr_write (P := P) (p := off + len) (ys := ys) M hm hβ hcap k1 k2 k3 k4 b1 b2 hs hb2 hly s1 hone
    have hst : ∀ ad, (some (⟨l.b, off * sz, none⟩ : Addr)) = some ad → (storeCells (ad.add (len * i.size)) us.toArray.toList).run P w = .ok () w' := by
      rintro ad hea; cases hea
      rw [add_plain, hisz, ← Nat.add_mul]
      exact r1
    have hr := run_append_fits (P := P) (ty := o.type) (n := len) (cap := cap) (w' := w') (elt_out he) hi hq s2 (by rw [hisz]; exact s3 w rfl) hb1 hst (fun hh => by cases hh)
    refine wp_value (hex _ w' (by rw [e1]; exact hr)) ⟨_, h, β, M', ?_, r2.frame hF (hE _ ⟨q, _, l, hm, hβ, by simp [Ob.blk, hcap]⟩), by cases o.dst <;> exact hd, (ht.mono hle).put ?_ o.dst, hgh.mono hle⟩
    · rintro b ⟨p, ob, l', h3, h4, h5⟩
      rcases getElem?_set_some h3 with ⟨e2, e3, _⟩ | ⟨hne, h3⟩
      · subst e2; subst e3
        rw [hβ] at h4; cases h4
        exact hE b ⟨_, _, l, hm, hβ, by simpa [Ob.blk, hcap] using h5⟩
      · exact hE b ⟨p, ob, l', h3, h4, h5⟩
    · refine RV_arc_mk (c := cx w' Zo _ β) (xs := xs.take (off + len) ++ ys ++ xs.drop (off + len + ys.length)) (lv := true) (sz := sz) (List.getElem?_set_self (List.getElem?_eq_some_iff.1 hm).1) hβ hc (by rw [hlen]; omega) rfl (fun _ => rfl)
theorem run_append_make {w : World} {t t' ty e : TypeId} {i : TypeInfo} {z : Value} {base : Option Addr} {n cap k : Nat} {ik : IntKind} {ik' : IntKind} {olds : Array Value} (ht : P.underlying t = some (.slice e)) (ht' : P.underlying t' = some (.int ik')) (hi : P.info? e = some i) (hz : i.zero = some z) (hzs : 0 < i.size)
    (hk : (k : Int) < 9223372036854775808) (hkb : (k : Int) * i.bytes ≤ 281474976710656) (ho : (Builtin.firstCells i.size n (.slice base n cap)).run P w.drew = .ok olds w.drew) (hfit : cap < n + k)
    (h63 : ((n + k : Nat) : Int) ≤ 9223372036854775807) (h48 : Builtin.nextslicecap (n + k) cap * i.bytes ≤ 281474976710656) (hk0 : 0 < k) :
    (Builtin.append_ #[t, t'] ty #[.slice base n cap, .int ik k]).run P w = .ok (.slice (some ⟨w.heap.size, 0, none⟩) (n + k) (grownCap w (n + k) cap e)) (w.drew.alloc (.cells (olds ++ Builtin.zeroCells z.cells k ++ Builtin.zeroCells z.cells (grownCap w (n + k) cap e - (n + k))) e)) := by
  have hn : ¬ (n + k ≤ cap) := by omega
  have h63' : ¬ (9223372036854775807 < ((n : Int) + (k : Int))) := by omega
  have h48' : ¬ (281474976710656 < Builtin.nextslicecap (n + k) cap * i.bytes) := by omega
  have e1 : ({ w with drawn := w.drawn + 1 } : World) = w.drew := rfl
  have hw : IntKind.i64.wrap (k : Int) = k := by simp [IntKind.wrap, IntKind.bits, IntKind.signed]; omega
  have hk1 : ¬ ((k : Int) < 0) := by omega
  have hkb' : ¬ (281474976710656 < (k : Int) * (i.bytes : Int)) := by omega
  have hks : ¬ (k * i.size = 0) := by
    have := Nat.mul_pos hk0 hzs
    omega
  have hks1 : ¬ (k = 0) := by omega
  have hks2 : ¬ (i.size = 0) := by omega
  simp [Builtin.append_, run_und ht, run_und ht', sizeOf, typeInfo, zeroValue, hi, hz, hn, h63', h48', Question.forced, e1, ho, newRow, grownCap, asInt, asIntOf, hw, hk1, hkb', hks, hks1, hks2]
/-- append(x, make(.., k)...), where there is no room: the elder row stays as it is. -/
theorem s_append_make {t t' e : TypeId} {x y : Operand} {q off len cap sz k : Nat} {ag : Bool} {zs : List V} {xs : List (List V)} {ik ik' : IntKind} (ho : o.op = .call { callee := .builtin .append, args := #[x, y], argTypes := #[t, t'] }) (he : elt P t = some e) (hl : lay P e = some (sz, ag)) (hs : 0 < sz) (hz : zer P e = some zs) (hzs : zs.length = sz) (hq : P.underlying t' = some (.int ik'))
    (hx : St.ev st.t x = .arc q off len cap) (hm : st.m[q]? = some (.arr true sz xs)) (hy : St.ev st.t y = .int ik k) (hk0 : 0 < k) (hfit : cap < len + k) (hb1 : (len + k) * P.bytesOf e ≤ 2 ^ 47) (hb2 : len + k ≤ 2 ^ 62)
    (h : K ⟨putT st.t o.dst (.ar st.m.length 0 (len + k)), st.m ++ [.arr true sz ((xs.drop off).take len ++ List.replicate k zs)], st.g⟩) : OW P o st K := by
  intro w0 E Zo gh a w Q ⟨β, M, hE, hF, hd, ht, hgh⟩
  have hvx := ev_RV ht x
  rw [hx] at hvx
  have hvy := ev_RV ht y
  rw [hy] at hvy
  have hvy : a.eval y = .int ik k := hvy
  obtain ⟨i, z, hi, hz', rfl⟩ := zer_out hz
  have hisz : i.size = sz := by
    have := run_sz (w := w) hl
    simp [sizeOf, typeInfo, hi] at this
    exact this
  have hzsz : z.cells.size = sz := by simpa using hzs
  have hbytes : P.bytesOf e = i.bytes := by simp [Program.bytesOf, hi]
  obtain ⟨_, l, hβ, ⟨b1, b2, b3, b4⟩, b5, A', e1, b6⟩ := at_ar M (Agree.refl _) hm (RV_arc hvx)
  have hc := RV_arc_cap hvx hm hβ
  have hc' : l.cap - off = cap := by omega
  rw [hc'] at e1
  have hel : elemsV st.m (.arc q off len cap) = some ((xs.drop off).take len) := by simp [elemsV, hm]
  have hxl : ∀ y ∈ (xs.drop off).take len, y.length = sz := by
    intro y hy
    rcases b4 with b4 | ⟨us, e', fr, k1, k2, k3, k4, k5⟩
    · have : xs = [] := List.eq_nil_of_length_eq_zero (by omega)
      subst this; simp at hy
    · exact k4.length y (List.mem_of_mem_drop (List.mem_of_mem_take hy))
  have hln : ((xs.drop off).take len).length = len := by rw [List.length_take, List.length_drop]; omega
  obtain ⟨olds, o1, o2, _, o3⟩ := first_cells (P := P) M hel hvx (n := len) (fun z hz => hxl z (List.mem_of_mem_take hz)) (by rw [hln]; exact Nat.le_refl _)
  rw [List.take_of_length_le (by rw [hln]; exact Nat.le_refl _)] at o1
  rw [e1] at o3
  have o3' : (Builtin.firstCells i.size len (.slice A' len cap)).run P w.drew = .ok olds.toArray w.drew := by
    rw [hisz]
    have hvx' : RV (cx w.drew Zo st.m β) (.arc q off len cap) (a.eval x) := by
      exact RV.mono (cx_le_grow (Grow.drew w)) hvx
    obtain ⟨olds2, p1, p2, _, p3⟩ := first_cells (P := P) (M.grow (Grow.drew w)) hel hvx' (n := len) (fun z hz => hxl z (List.mem_of_mem_take hz)) (by rw [hln]; exact Nat.le_refl _)
    rw [e1] at p3
    have hsame : olds2 = olds := by
      have g := o3
      have g2 := p3
      have hh : ∀ (us : List Value), (Builtin.firstCells sz len (.slice A' len cap)).run P w = .ok us.toArray w → (Builtin.firstCells sz len (.slice A' len cap)).run P w.drew = .ok us.toArray w.drew := by
        intro us hu
        cases A' with
        | none => simpa [Builtin.firstCells] using hu
        | some ad =>
          rcases b4 with b4 | ⟨us2, e', fr, k1, k2, k3, k4, k5⟩
          · have h0 : len = 0 := by omega
            subst h0
            simpa [Builtin.firstCells, loadCells, loadCellsFrom] using hu
          · by_cases h0 : len = 0
            · subst h0
              simpa [Builtin.firstCells, loadCells, loadCellsFrom] using hu
            · have hA := b6 (by omega)
              have hr := (k4.drop off).take len
              obtain ⟨us3, j1, j2, j3⟩ := hr.list
              have hul : us3.length = len * sz := by rw [j1.length, flatten_len hxl, hln]
              have q1 := run_firstCells (P := P) (w := w) (A := some ad) (cp := cap) hul (.inr ⟨l.b, off * sz, hA, fun j u hj => by have := j3 j u hj; rw [Nat.zero_add] at this; exact this⟩) len
              have q2 := run_firstCells (P := P) (w := w.drew) (A := some ad) (cp := cap) hul (.inr ⟨l.b, off * sz, hA, fun j u hj => by have := j3 j u hj; rw [Nat.zero_add] at this; exact this⟩) len
              rw [q1] at hu
              have : us3.toArray = us.toArray := by injection hu
              rw [q2, this]
      have := hh olds g
      rw [g2] at this
      have : olds2.toArray = olds.toArray := by injection this
      simpa using congrArg Array.toList this
    rw [hsame] at p3
    exact p3
  have h48 := growslice_fits (need := len + k) (old := cap) (bytes := i.bytes) (by omega) (by rw [hbytes] at hb1; omega)
  have hkb : (k : Int) * i.bytes ≤ 281474976710656 := by
    rw [hbytes] at hb1
    have h2 : k * i.bytes ≤ (len + k) * i.bytes := Nat.mul_le_mul_right _ (by omega)
    have : ((k * i.bytes : Nat) : Int) ≤ 281474976710656 := by omega
    simpa using this
  have hr := run_append_make (P := P) (ty := o.type) (ik := ik) (elt_out he) hq hi hz' (by omega) (by omega) hkb o3' hfit (by omega) h48 hk0
  have hex : ∀ v w2, (Builtin.append_ #[t, t'] o.type #[a.eval x, a.eval y]).run P w = .ok v w2 → (execOp a.eval o).run P w = .ok (.value v) w2 := by
    intro v w2 hv
    simp [execOp, ho, resolve, invoke, builtin, hv]
  have hge := grownCap_ge w (len + k) cap e
  have hlem := grownCap_le_maxLen w (len + k) cap e (by unfold maxLen; omega)
  generalize hgc : grownCap w (len + k) cap e = gc at *
  have hcs : (olds.toArray ++ Builtin.zeroCells z.cells k ++ Builtin.zeroCells z.cells (gc - (len + k))).size = gc * sz := by
    simp only [Array.size_append, List.size_toArray, zeroCells_size, o2, hzsz, ← Nat.add_mul]
    congr 1; omega
  have hzl : (Builtin.zeroCells z.cells k).toList = (List.replicate k z.cells.toList).flatten := by
    have := madeCells_list z.cells sz k hzsz hs
    rw [← this, ← hzsz]
    rfl
  generalize hcells : (olds.toArray ++ Builtin.zeroCells z.cells k ++ Builtin.zeroCells z.cells (gc - (len + k))) = cells at hr hcs
  obtain ⟨M2, hle2⟩ := M.holes 1
  have hG : Grow w (w.drew.alloc (.cells cells e)) := (Grow.drew w).trans (Grow.alloc w.drew _)
  have hhole : (st.m ++ List.replicate 1 Ob.hole)[st.m.length]? = some .hole := by
    rw [List.getElem?_append_right (by simp)]; simp
  generalize hnew : (xs.drop off).take len ++ List.replicate k (z.cells.toList.map ofVal1) = new at *
  have hnl : new.length = len + k := by rw [← hnew]; simp; omega
  have hsetm : (st.m ++ List.replicate 1 Ob.hole).set st.m.length (.arr true sz new) = st.m ++ [.arr true sz new] := by
    rw [List.set_append_right _ _ (by simp)]; simp
  have hxl2 : ∀ x ∈ new, x.length = sz := by
    intro y hy
    rw [← hnew] at hy
    rcases List.mem_append.1 hy with h | h
    · exact hxl y h
    · rw [List.eq_of_mem_replicate h]; exact hzs
  obtain ⟨M3, hle3⟩ := M2.fill (w' := w.drew.alloc (.cells cells e)) (ob := .arr true sz new) (l := ⟨w.heap.size, gc⟩) hhole hG (fun b hb => by simp only [Ob.blk] at hb; split at hb <;> simp at hb; omega)
    (fun hle => by
      refine ⟨by show new.length ≤ gc; omega, by unfold maxLen at hlem; show gc < 2 ^ 63; omega, hs, .inr ⟨cells, e, (0, 0), heap_new w.drew _, hcs, NoFr.zero _, ?_, .inl rfl⟩⟩
      refine RR.of (us := olds ++ (List.replicate k z.cells.toList).flatten) hxl2 ?_ fun j u hj => ?_
      · have hfl : new.flatten = ((xs.drop off).take len).flatten ++ (List.replicate k (z.cells.toList.map ofVal1)).flatten := by rw [← hnew, List.flatten_append]
        rw [hfl]
        exact ((o1.mono (hle2.trans hle)).append (RVs_replicate (RVs_ofVal1 _ _) _))
      · show (w.drew.alloc (.cells cells e)).cell? ⟨w.drew.heap.size, 0 + j, none⟩ = some u
        rw [cell_new, Nat.zero_add]
        have hlt := (List.getElem?_eq_some_iff.1 hj).1
        have : cells.toList[j]? = some u := by
          rw [← hcells]
          simp only [Array.toList_append, hzl]
          rw [List.getElem?_append_left (by simpa using hlt)]
          exact hj
        simpa using this)
  rw [hsetm] at M3 hle3
  refine wp_value (v := .slice (some ⟨w.heap.size, 0, none⟩) (len + k) gc) (w' := w.drew.alloc (.cells cells e)) (hex _ _ (by rw [e1, hvy]; exact hr)) ?_
  refine ⟨_, h, _, M3, ?_, hF.trans (hG.mono (fun _ q => q.elim)), by cases o.dst <;> exact hd, (ht.mono (hle2.trans hle3)).put ?_ o.dst, hgh.mono (hle2.trans hle3)⟩
  · rintro b ⟨p, ob, l', h3, h4, h5⟩
    rcases getElem?_append_one _ _ _ _ h3 with h3 | ⟨g5, e3⟩
    · have hp := (List.getElem?_eq_some_iff.1 h3).1
      rw [List.getElem?_set_ne (by omega), List.getElem?_append_left (by rw [M.len]; exact hp)] at h4
      exact hE b ⟨p, ob, l', h3, h4, h5⟩
    · subst e3
      subst g5
      rw [List.getElem?_set_self (by simp [M.len])] at h4
      cases h4
      simp only [Ob.blk] at h5
      split at h5
      · cases h5
      · simp at h5; subst h5; exact .inr hF.size
  · refine RV_ar (xs := new) (lv := true) (sz := sz) (l := ⟨w.heap.size, gc⟩) ?_ ?_ (by omega) (by rw [Nat.sub_zero]) (fun _ => by rw [Nat.zero_mul])
    · show (st.m ++ [Ob.arr true sz new])[st.m.length]? = _
      rw [List.getElem?_append_right (by simp)]
      simp
    · show ((β ++ List.replicate 1 _).set st.m.length _)[st.m.length]? = _
      rw [List.getElem?_set_self (by simp [M.len])]
end
section
variable {P : Program} {o : Oper} {ev : Operand → V} {mT : List Ob} {base : Nat} {K : V → List Ob → Prop}
/-- slices.overlaps: two slices of two objects do not. -/
def ovOK (P : Program) (f : FuncId) (m : List Ob) (xs : List V) : Prop := ∃ (fn : Func) (t r e : TypeId) (sz : Nat) (ag : Bool) (x y : V) (q off len q' off' len' : Nat) (zs zs' : List (List V)), P.funcs[f]? = some fn ∧ (fn.name == "runtime.NumGoroutine") = false ∧ fn.body.isNone = true ∧ Extern.findNext fn = none ∧
  Extern.find fn = some (Extern.SlicesOverlaps.overlaps #[t, t] #[r]) ∧ elt P t = some e ∧ lay P e = some (sz, ag) ∧ xs = [x, y] ∧ AsAr x q off len ∧ AsAr y q' off' len' ∧ 0 < len ∧ 0 < len' ∧ q ≠ q' ∧ m[q]? = some (.arr true sz zs) ∧ m[q']? = some (.arr true sz zs')
theorem q_overlaps {f : FuncId} {x : Operand} {args : Array Operand} {ts : Array TypeId} (ho : o.op = .call { callee := .value x, args := args, argTypes := ts }) (hf : ev x = .fn f [] []) (hov : ovOK P f mT (args.toList.map ev)) (h : K (.bool false) []) : Goal P o ev mT base K := by
  refine ⟨_, _, QS.value fun w Zo m β a M A hx => ?_, h⟩
  refine ⟨.bool false, ?_, rfl⟩
  obtain ⟨fn, t, r, e, sz, ag, xv, yv, q, off, len, q', off', len', zs, zs', g1, g2, g3, g4, g5, he, hl, hargs, hX, hY, hp1, hp2, hne, hmx, hmy⟩ := hov
  rw [ho] at hx
  have hargs' : ∃ y z, args = #[y, z] ∧ ev y = xv ∧ ev z = yv := by
    obtain ⟨l⟩ := args
    match l, hargs with
    | [y, z], hargs => simp at hargs; exact ⟨y, z, rfl, hargs.1, hargs.2⟩
  obtain ⟨y, z, rfl, rfl, rfl⟩ := hargs'
  have hv := hx x (by simp [Op.operands, Call.operands])
  rw [hf] at hv
  obtain ⟨us, vs, ef, j1, j2⟩ := hv
  have hus : us = #[] := by have : us.toList = [] := j1; cases us; simp_all
  have hvs : vs = #[] := by have : vs.toList = [] := j2; cases vs; simp_all
  subst hus; subst hvs
  have hvy := hX.rv (hx y (by simp [Op.operands, Call.operands]))
  have hvz := hY.rv (hx z (by simp [Op.operands, Call.operands]))
  obtain ⟨hm1, l1, hβ1, ⟨a1, a2, a3, a4⟩, a5, A1, e1, a6⟩ := at_ar M A hmx hvy
  obtain ⟨hm2, l2, hβ2, ⟨b1, b2, b3, b4⟩, b5, A2, e2, b6⟩ := at_ar M A hmy hvz
  have hrun : (Extern.SlicesOverlaps.overlaps #[t, t] #[r] #[a.eval y, a.eval z]).run P w = .ok (.bool false) w := by
    rw [e1, e2]
    have hc1 : l1.cap ≠ 0 := by omega
    have hc2 : l2.cap ≠ 0 := by omega
    rcases a4 with a4 | ⟨us1, et1, fr1, k1, k2, k3, k4, k5⟩
    · exact absurd a4 hc1
    rcases b4 with b4 | ⟨us2, et2, fr2, n1, n2, n3, n4, n5⟩
    · exact absurd b4 hc2
    have k1 : w.heap[l1.b]? = some (.cells us1 et1 fr1) := k1
    have n1 : w.heap[l2.b]? = some (.cells us2 et2 fr2) := n1
    rw [a6 (by omega), b6 (by omega)]
    have hblk : l1.b ≠ l2.b := fun hb => hne (M.sep q q' _ _ l1 l2 l1.b hm1 hm2 hβ1 hβ2 (by simp [Ob.blk, hc1]) (by simp [Ob.blk, hc2, hb]))
    have hlt : off * sz < us1.size := by rw [k2]; exact Nat.mul_lt_mul_of_pos_right (by omega) a3
    refine Lib.run_overlaps_apart w t r e (elt_out he) sz (fun w => run_sz hl) _ _ _ _ _ _ hblk et1 et2 us1.size us2.size ?_ ?_ ?_ ?_ ?_
    · simp [World.shape?, k1]
    · simp [World.shape?, n1]
    · rw [n2]
      exact Nat.mul_ne_zero hc2 (by omega)
    · have := k3 (off * sz) (by omega)
      simp only [World.frozen?, k1]
      simpa using this
    · have := k3 us1.size (by omega)
      simp only [World.frozen?, k1]
      simpa using this
  have hcall := run_callFunc_extern (P := P) g1 g2 g3 g4 g5 #[a.eval y, a.eval z] w
  rw [hrun] at hcall
  simp only [execOp, ho, resolve, ef, Deferred.ofValue, Sem.run_bind, Sem.run_pure, Result.andThen_ok, invoke]
  simpa using hcall
end
end Go.Pm
