/- The abstract machine: what is built, and made. -/
import Derived.Test.YtkdaijcdddomjaaPm8
set_option linter.unusedVariables false
set_option linter.unusedSimpArgs false
namespace Go.Pm
open Go.RowKit

/-- A value's cells. -/
def cellsV (m : List Ob) : V → Option (List V)
  | .agg cs => some cs
  | x => if oneV m x then some [x] else none
def fillG (place : Nat → Option (Nat × Nat)) : List V → List (Nat × List V) → Option (List V)
  | cs, [] => some cs
  | cs, (i, ys) :: r => match place i with
    | some (off, n) => if ys.length = n ∧ off + n ≤ cs.length then fillG place (cs.take off ++ ys ++ cs.drop (off + n)) r else none
    | none => none
def partsV (m : List Ob) (ev : Operand → V) : List (Nat × Operand) → Option (List (Nat × List V))
  | [] => some []
  | (i, x) :: r => match cellsV m (ev x) with
    | some ys => match partsV m ev r with
      | some l => some ((i, ys) :: l)
      | none => none
    | none => none
def placeS (P : Program) (t : TypeId) (i : Nat) : Option (Nat × Nat) := match fld P t i with
  | some (off, n, _) => some (off, n)
  | none => none
/-- Every field's type is known. -/
def fldsOK (P : Program) (t : TypeId) : Bool := match P.underlying t with
  | some (.struct fs) => fs.all fun f => (lay P f.type).isSome
  | _ => false

theorem list_set_run {α : Type} : ∀ (ys : List α) (k : Nat) (cs : List α), k + ys.length ≤ cs.length →
    (ys.zipIdx k).foldl (fun cs p => cs.set p.2 p.1) cs = cs.take k ++ ys ++ cs.drop (k + ys.length)
  | [], k, cs, h => by simp
  | y :: ys, k, cs, h => by
    simp only [List.zipIdx_cons, List.foldl_cons]
    rw [list_set_run ys (k + 1) (cs.set k y) (by simp at h ⊢; omega)]
    have hk : k < cs.length := by simp at h; omega
    have e1 : (cs.set k y).take (k + 1) = cs.take k ++ [y] := by
      rw [List.take_set, List.take_add_one, List.getElem?_eq_getElem hk]
      simp only [Option.toList_some]
      rw [List.set_append_right _ _ (by rw [List.length_take]; exact Nat.min_le_left _ _)]
      simp [Nat.min_eq_left (Nat.le_of_lt hk)]
    have e2 : (cs.set k y).drop (k + 1 + ys.length) = cs.drop (k + (y :: ys).length) := by
      rw [List.drop_set_of_lt (by omega)]
      congr 1
      simp; omega
    rw [e1, e2]
    simp
theorem fold_set (off : Nat) (v cells : Array Value) (h : off + v.size ≤ cells.size) :
    (v.zipIdx.foldl (fun cs (x : Value × Nat) => cs.setIfInBounds (off + x.2) x.1) cells).toList = cells.toList.take off ++ v.toList ++ cells.toList.drop (off + v.size) := by
  have h1 : ∀ (l : List (Value × Nat)) (cs : Array Value), (l.foldl (fun cs (x : Value × Nat) => cs.setIfInBounds (off + x.2) x.1) cs).toList = (l.map fun x => (x.1, off + x.2)).foldl (fun cs p => cs.set p.2 p.1) cs.toList := by
    intro l
    induction l with
    | nil => intro cs; rfl
    | cons x l ih => intro cs; simp only [List.foldl_cons, List.map_cons]; rw [ih]; simp
  rw [← Array.foldl_toList, h1, Array.toList_zipIdx]
  have h2 : (v.toList.zipIdx.map fun x => (x.1, off + x.2)) = v.toList.zipIdx off := by
    have := List.map_snd_add_zipIdx_eq_zipIdx (l := v.toList) (k := 0) (n := off)
    rw [Nat.add_zero] at this
    rw [← this]
    apply List.map_congr_left
    intro x _
    simp [Prod.map, Nat.add_comm]
  rw [h2, list_set_run _ _ _ (by simpa using h)]
  simp
theorem fill_sound {c : Cx} {place : Nat → Option (Nat × Nat)} : ∀ (ps : List (Nat × List V)) (qs : List (Nat × Value)) (cs : List V) (cells : Array Value) (cs' : List V), RVs c cs cells.toList →
    ps.length = qs.length → (∀ (i : Nat) p q, ps[i]? = some p → qs[i]? = some q → p.1 = q.1 ∧ RVs c p.2 q.2.cells.toList) → fillG place cs ps = some cs' → ∃ cells', Instr.fill place cells qs = some cells' ∧ RVs c cs' cells'.toList
  | [], [], cs, cells, cs', h, _, _, hf => by
    simp only [fillG, Option.some.injEq] at hf; subst hf
    exact ⟨cells, rfl, h⟩
  | (i, ys) :: ps, (j, v) :: qs, cs, cells, cs', h, hl, hr, hf => by
    obtain ⟨e, hy⟩ := hr 0 _ _ rfl rfl
    simp only at e hy; subst e
    simp only [fillG] at hf
    split at hf
    · rename_i off n hp
      split at hf
      · rename_i hc
        have hv : v.cells.size = n := by
          have := hy.length
          rw [← hc.1, ← this]; simp
        have hsz : cells.size = cs.length := by
          have := h.length
          rw [← this]; simp
        simp only [Instr.fill, hp]
        rw [if_neg (by simp [hv, hsz]; omega)]
        refine fill_sound ps qs _ _ cs' ?_ (by simpa using hl) (fun k p q h1 h2 => hr (k + 1) p q (by simpa using h1) (by simpa using h2)) hf
        have := fold_set off v.cells cells (by omega)
        rw [this, hv]
        exact ((h.take off).append hy).append (h.drop (off + n))
      · cases hf
    · cases hf
section
variable {P : Program} {o : Oper} {ev : Operand → V} {mT : List Ob} {base : Nat} {K : V → List Ob → Prop}
theorem cellsV_sound {w : World} {Zo : Nat → Prop} {m : List Ob} {β : List Lc} (M : Mem w Zo m β) (A : Agree mT m) {x : V} {v : Value} {ys : List V} (h : cellsV mT x = some ys) (hv : RV (cx w Zo m β) x v) : RVs (cx w Zo m β) ys v.cells.toList := by
  unfold cellsV at h
  split at h
  · simp only [Option.some.injEq] at h; subst h
    obtain ⟨us, e, r⟩ := hv
    rw [e]; exact r
  · split at h
    · rename_i h1
      simp only [Option.some.injEq] at h; subst h
      rw [cells_one (one_cells M A h1 hv)]
      exact ⟨v, [], rfl, hv, rfl⟩
    · cases h
theorem partsV_sound {w : World} {Zo : Nat → Prop} {m : List Ob} {β : List Lc} {a : Act} (M : Mem w Zo m β) (A : Agree mT m) : ∀ (l : List (Nat × Operand)) (ps : List (Nat × List V)), partsV mT ev l = some ps → (∀ p ∈ l, RV (cx w Zo m β) (ev p.2) (a.eval p.2)) →
    ps.length = (l.map fun p => (p.1, a.eval p.2)).length ∧ ∀ (i : Nat) p q, ps[i]? = some p → (l.map fun p => (p.1, a.eval p.2))[i]? = some q → p.1 = q.1 ∧ RVs (cx w Zo m β) p.2 q.2.cells.toList
  | [], ps, h, hx => by
    simp only [partsV, Option.some.injEq] at h; subst h
    exact ⟨rfl, fun i p q h => by simp at h⟩
  | (i, x) :: l, ps, h, hx => by
    simp only [partsV] at h
    split at h
    · rename_i ys hy
      split at h
      · rename_i ps' hp
        simp only [Option.some.injEq] at h; subst h
        obtain ⟨h1, h2⟩ := partsV_sound M A l ps' hp (fun p hp => hx p (List.mem_cons_of_mem _ hp))
        refine ⟨by simpa using h1, fun j p q hj hq => ?_⟩
        cases j with
        | zero =>
          simp at hj hq; subst hj; subst hq
          exact ⟨rfl, cellsV_sound M A hy (hx (i, x) List.mem_cons_self)⟩
        | succ j => exact h2 j p q (by simpa using hj) (by simpa using hq)
      · cases h
    · cases h
theorem run_places {w : World} : ∀ (l : List Field), (∀ f ∈ l, (lay P f.type).isSome = true) → (l.mapM (fun f => do pure (f.offset, ← sizeOf f.type)) : Sem (List (Nat × Nat))).run P w = .ok (l.map fun f => (f.offset, ((lay P f.type).getD (0, false)).1)) w
  | [], _ => by simp
  | f :: l, h => by
    obtain ⟨⟨n, b⟩, hn⟩ := Option.isSome_iff_exists.1 (h f List.mem_cons_self)
    have ih := run_places (w := w) l (fun g hg => h g (List.mem_cons_of_mem _ hg))
    rw [List.mapM_cons]
    simp only [Sem.run_bind, run_sz hn, Result.andThen_ok, Sem.run_pure, ih]
    simp [hn]
theorem zer_out {t : TypeId} {zs : List V} (h : zer P t = some zs) : ∃ i z, P.info? t = some i ∧ i.zero = some z ∧ zs = z.cells.toList.map ofVal1 := by
  unfold zer at h
  split at h
  · rename_i i hi
    split at h
    · rename_i z hz
      simp only [Option.some.injEq] at h
      exact ⟨i, z, hi, hz, h.symm⟩
    · cases h
  · cases h
theorem run_zero {w : World} {t : TypeId} {i : TypeInfo} {z : Value} (hi : P.info? t = some i) (hz : i.zero = some z) : (zeroValue t).run P w = .ok z w := by
  simp [zeroValue, typeInfo, hi, hz]
theorem q_build {t : TypeId} {parts : Array (Nat × Operand)} {zs cs : List V} {ps : List (Nat × List V)} (ho : o.op = .build t parts) (hz : zer P t = some zs) (hok : fldsOK P t = true) (hp : partsV mT ev parts.toList = some ps) (hf : fillG (placeS P t) zs ps = some cs) (h : K (.agg cs) []) : Goal P o ev mT base K := by
  refine ⟨_, _, QS.value fun w Zo m β a M A hx => ?_, h⟩
  rw [ho] at hx
  obtain ⟨i, z, hi, hz', rfl⟩ := zer_out hz
  unfold fldsOK at hok
  split at hok
  · rename_i fs hfs
    have hok' : ∀ f ∈ fs.toList, (lay P f.type).isSome = true := by
      intro f hf
      rw [Array.all_eq_true'] at hok
      exact hok f (by simpa using hf)
    obtain ⟨g1, g2⟩ := partsV_sound (a := a) M A parts.toList ps hp (fun p hp => hx p.2 (by simp only [Op.operands]; simpa using ⟨p.1, by simpa using hp⟩))
    have hpl : placeS P t = ((fs.toList.map fun f => (f.offset, ((lay P f.type).getD (0, false)).1)).toArray[·]?) := by
      funext j
      unfold placeS fld
      rw [hfs]
      simp only [List.getElem?_toArray, List.getElem?_map, Array.getElem?_toList]
      cases hj : fs[j]? with
      | none => rfl
      | some f =>
        have hm : f ∈ fs.toList := by simpa using Array.mem_of_getElem? hj
        obtain ⟨⟨n, b⟩, hn⟩ := Option.isSome_iff_exists.1 (hok' f hm)
        simp [hn]
    rw [hpl] at hf
    obtain ⟨cells', k1, k2⟩ := fill_sound ps _ _ z.cells cs (RVs_ofVal1 _ _) g1 g2 hf
    refine ⟨.agg cells', ?_, cells', rfl, k2⟩
    have hmap : (parts.map fun (i, x) => (i, a.eval x)).toList = parts.toList.map fun p => (p.1, a.eval p.2) := by simp
    simp only [execOp, ho, Instr.build, Sem.run_bind, run_zero hi hz', run_und hfs, Result.andThen_ok, Sem.run_pure]
    rw [Array.mapM_eq_mapM_toList]
    simp only [Sem.run_map, run_places fs.toList hok', Result.andThen_ok, hmap, k1]
    rfl
  · cases hok

/-- A new row. -/
theorem q_newarr {e : TypeId} {n sz : Nat} {xs : List (List V)} (hs : 0 < sz) (hl : ∀ x ∈ xs, x.length = sz) (hn : xs.length = n) (h : ∀ (w : World) (Zo : Nat → Prop) (m : List Ob) (β : List Lc) (a : Act), Mem w Zo m β → Agree mT m → (∀ x ∈ o.op.operands, RV (cx w Zo m β) (ev x) (a.eval x)) →
    ∃ (us : Array Value) (cap : Nat) (fr : Nat × Nat) (w1 : World), (execOp a.eval o).run P w = .ok (.value (.slice (some ⟨w.heap.size, 0, none⟩) n cap)) (w1.alloc (.cells us e fr)) ∧ Grow w w1 ∧ w1.heap.size = w.heap.size ∧ n ≤ cap ∧ cap < 2 ^ 63 ∧ us.size = cap * sz ∧ NoFr us.size fr ∧ RVs (cx w Zo m β) xs.flatten (us.toList.take (n * sz)))
    (hk : K (.ar base 0 n) [.arr true sz xs]) : Goal P o ev mT base K := by
  refine ⟨_, _, QS.new1 fun w Zo m β a M A hx => ?_, hk⟩
  obtain ⟨us, cap, fr, w1, h1, hG, hw1, h2, h3, h4, h5, h6⟩ := h w Zo m β a M A hx
  refine ⟨_, _, ⟨w.heap.size, cap⟩, h1, hG.trans (Grow.alloc w1 _), fun b hb => ?_, ?_⟩
  · simp only [Ob.blk] at hb
    split at hb
    · cases hb
    · simp at hb; omega
  intro c' hle hw hm hβ hob
  refine ⟨⟨by show xs.length ≤ cap; omega, h3, hs, .inr ⟨us, e, fr, by rw [hw, ← hw1]; exact heap_new w1 _, h4, h5, ?_, .inl rfl⟩⟩, ?_⟩
  · refine RR.of hl (h6.mono hle) fun j u hj => ?_
    show c'.w.cell? ⟨w.heap.size, 0 + j, none⟩ = _
    rw [hw, ← hw1, cell_new, Nat.zero_add]
    rw [List.getElem?_take] at hj
    split at hj
    · simpa using hj
    · cases hj
  · unfold RV
    rw [hob, hβ]
    exact ⟨by omega, _, rfl, fun _ => by simp⟩
theorem flatten_len {α : Type} {sz : Nat} : ∀ {xs : List (List α)}, (∀ x ∈ xs, x.length = sz) → xs.flatten.length = xs.length * sz
  | [], _ => by simp
  | x :: xs, h => by
    rw [List.flatten_cons, List.length_append, h x List.mem_cons_self, flatten_len fun y hy => h y (List.mem_cons_of_mem _ hy), List.length_cons, Nat.add_mul, Nat.one_mul, Nat.add_comm]
theorem range_zero_size (z : Array Value) (n : Nat) : ((Array.range n).map fun i => z[i % z.size]!).size = n := by simp
/-- What stands behind is built over whatever was there. -/
theorem fillG_row {sz : Nat} : ∀ (ys : List (List V)) (k : Nat) (cs : List V), (∀ y ∈ ys, y.length = sz) → (k + ys.length) * sz ≤ cs.length →
    fillG (fun i => some (i * sz, sz)) cs ((ys.zipIdx k).map fun p => (p.2, p.1)) = some (cs.take (k * sz) ++ ys.flatten ++ cs.drop ((k + ys.length) * sz))
  | [], k, cs, _, h => by simp [fillG]
  | y :: ys, k, cs, hl, h => by
    have hy := hl y List.mem_cons_self
    have hk : k * sz + sz ≤ cs.length := by
      rw [List.length_cons] at h
      have : (k + 1) * sz ≤ (k + (ys.length + 1)) * sz := Nat.mul_le_mul_right _ (by omega)
      rw [Nat.add_mul, Nat.one_mul] at this
      omega
    simp only [List.zipIdx_cons, List.map_cons, fillG]
    rw [if_pos ⟨hy, hk⟩]
    have hlen : (cs.take (k * sz) ++ y ++ cs.drop (k * sz + sz)).length = cs.length := by
      simp [hy]; omega
    rw [fillG_row ys (k + 1) _ (fun z hz => hl z (List.mem_cons_of_mem _ hz)) (by rw [hlen, show k + 1 + ys.length = k + (y :: ys).length by simp; omega]; exact h)]
    congr 1
    have e1 : (cs.take (k * sz) ++ y ++ cs.drop (k * sz + sz)).take ((k + 1) * sz) = cs.take (k * sz) ++ y := by
      rw [Nat.add_mul, Nat.one_mul]
      rw [List.take_append_of_le_length (by simp [hy]; omega)]
      rw [List.take_of_length_le (by simp [hy]; omega)]
    have e2 : (cs.take (k * sz) ++ y ++ cs.drop (k * sz + sz)).drop ((k + 1 + ys.length) * sz) = cs.drop ((k + (y :: ys).length) * sz) := by
      have h1 : (cs.take (k * sz) ++ y).length = k * sz + sz := by simp [hy]; omega
      have h2 : (k + 1 + ys.length) * sz = (k * sz + sz) + ys.length * sz := by rw [Nat.add_mul, Nat.add_mul, Nat.one_mul]
      rw [h2, ← h1, List.drop_append, List.drop_of_length_le (by omega), List.nil_append, Nat.add_sub_cancel_left, List.drop_drop]
      congr 1
      rw [List.length_cons, Nat.add_mul, Nat.add_mul, Nat.one_mul]
      omega
    rw [e1, e2]
    simp
/-- The parts of a slice's literal, each in its place. -/
def rowV (m : List Ob) (ev : Operand → V) (sz : Nat) : Nat → List (Nat × Operand) → Option (List (List V))
  | _, [] => some []
  | k, (i, x) :: r => if i = k then match cellsV m (ev x) with
      | some ys => if ys.length = sz then match rowV m ev sz (k + 1) r with
          | some l => some (ys :: l)
          | none => none
        else none
      | none => none
    else none
theorem rowV_parts {sz : Nat} : ∀ (l : List (Nat × Operand)) (k : Nat) (xs : List (List V)), rowV mT ev sz k l = some xs → partsV mT ev l = some ((xs.zipIdx k).map fun p => (p.2, p.1)) ∧ (∀ x ∈ xs, x.length = sz) ∧ xs.length = l.length
  | [], k, xs, h => by
    simp only [rowV, Option.some.injEq] at h; subst h
    exact ⟨rfl, by simp, rfl⟩
  | (i, x) :: r, k, xs, h => by
    simp only [rowV] at h
    split at h
    · rename_i hk; subst hk
      split at h
      · rename_i ys hy
        split at h
        · rename_i hl
          split at h
          · rename_i l hr
            simp only [Option.some.injEq] at h; subst h
            obtain ⟨h1, h2, h3⟩ := rowV_parts r (i + 1) l hr
            refine ⟨by simp [partsV, hy, h1], ?_, by simp [h3]⟩
            intro z hz
            rcases List.mem_cons.1 hz with rfl | hz
            · exact hl
            · exact h2 z hz
          · cases h
        · cases h
      · cases h
    · cases h
theorem q_buildSlice {t e : TypeId} {len sz : Nat} {ag : Bool} {parts : Array (Nat × Operand)} {zs : List V} {xs : List (List V)} (ho : o.op = .buildSlice t len parts) (he : elt P t = some e) (hl : lay P e = some (sz, ag)) (hs : 0 < sz) (hz : zer P e = some zs) (hr : rowV mT ev sz 0 parts.toList = some xs) (hn : xs.length = len) (hb : len * sz ≤ 2 ^ 24) (h : K (.ar base 0 len) [.arr true sz xs]) : Goal P o ev mT base K := by
  obtain ⟨g1, g2, g3⟩ := rowV_parts parts.toList 0 xs hr
  refine q_newarr (e := e) hs g2 hn (fun w Zo m β a M A hx => ?_) h
  rw [ho] at hx
  obtain ⟨i, z, hi, hz', rfl⟩ := zer_out hz
  obtain ⟨p1, p2⟩ := partsV_sound (a := a) M A parts.toList _ g1 (fun p hp => hx p.2 (by simp only [Op.operands]; simpa using ⟨p.1, by simpa using hp⟩))
  let Z : Array Value := if len * sz = 0 then #[] else z.cells
  let C : Array Value := (Array.range (len * sz)).map (Z[· % Z.size]!)
  have hC : C.size = len * sz := by simp [C]
  have hfill := fillG_row (sz := sz) xs 0 (List.replicate C.toList.length .junk) g2 (by simp [hC, hn])
  obtain ⟨cells', k1, k2⟩ := fill_sound (c := cx w Zo m β) _ _ _ C _ (RVs.junk _ C.toList) p1 p2 hfill
  have hk2 : RVs (cx w Zo m β) xs.flatten cells'.toList := by
    simpa [hC, hn] using k2
  have hsz : cells'.size = len * sz := by
    have := k2.length
    have h2 := hk2.length
    have h3 : xs.flatten.length = len * sz := by rw [← hn]; exact flatten_len g2
    rw [h3] at h2
    simpa using h2
  have hmap : (parts.map fun (i, x) => (i, a.eval x)).toList = parts.toList.map fun p => (p.1, a.eval p.2) := by simp
  refine ⟨cells', len, (0, 0), w, ?_, Grow.refl w, rfl, Nat.le_refl _, ?_, hsz, NoFr.zero _, ?_⟩
  · simp only [execOp, ho, Instr.buildSlice, Sem.run_bind, run_und (elt_out he), run_sz hl, Result.andThen_ok, Sem.run_pure]
    rw [if_neg (by omega)]
    have hmap2 : (Array.map (fun x : Nat × Operand => (x.fst, a.eval x.snd)) parts).toList = parts.toList.map fun p => (p.1, a.eval p.2) := by simp
    by_cases h0 : len * sz = 0
    · have hCe : C = (Array.range (len * sz)).map fun x => (#[] : Array Value)[x % (#[] : Array Value).size]! := by simp only [C, Z, if_pos h0]
      rw [hCe] at k1
      rw [if_pos h0]
      simp only [Sem.run_bind, Sem.run_pure, Result.andThen_ok, hmap2, k1, newRow, run_newObj]
      rfl
    · have hCe : C = (Array.range (len * sz)).map fun x => z.cells[x % z.cells.size]! := by simp only [C, Z, if_neg h0]
      rw [hCe] at k1
      rw [if_neg h0]
      simp only [Sem.run_bind, Sem.run_pure, Result.andThen_ok, run_zero hi hz', hmap2, k1, newRow, run_newObj]
      rfl
  · have : len ≤ len * sz := Nat.le_mul_of_pos_right _ hs
    omega
  · rw [List.take_of_length_le (by simp [hsz])]
    exact hk2
/-- A slice of no elements, made of a list. -/
theorem q_build0 {t e : TypeId} {parts : Array (Nat × Operand)} {zs : List V} {sz : Nat} {ag : Bool} (ho : o.op = .buildSlice t 0 parts) (he : elt P t = some e) (hl : lay P e = some (sz, ag)) (hz : zer P e = some zs) (hp : parts.toList = []) (h : K .e0 []) : Goal P o ev mT base K := by
  refine ⟨_, _, ?_, h⟩
  intro w Zo m β a Q M A hx hh
  have hparts : parts = #[] := by cases parts; simp_all
  subst hparts
  have hr : (execOp a.eval o).run P w = .ok (.value (.slice (some ⟨w.heap.size, 0, none⟩) 0 0)) (w.alloc (.cells #[] e)) := by
    simp only [execOp, ho, Instr.buildSlice, Sem.run_bind, run_und (elt_out he), run_sz hl, Result.andThen_ok, Sem.run_pure]
    rw [if_neg (by omega), if_pos (by omega)]
    simp [newRow, run_newObj, Instr.fill]
    congr 2
    exact Array.eq_empty_of_size_eq_zero (by simp)
  refine wp_value hr ⟨_, β, rfl, Grow.alloc w _, M.grow (Grow.alloc w _), cx_le_grow (Grow.alloc w _), ⟨_, rfl⟩, fun b hb => .inl hb⟩
end
end Go.Pm
