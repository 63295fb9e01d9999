/- The abstract machine: what a function is handed, read into values. -/
import Derived.Test.YtkdaijcdddomjaaPm22
import Derived.ChangeArms
import GoSem.ClaimJoined
set_option linter.unusedVariables false
set_option linter.unusedSimpArgs false
namespace Go.Pm
open Go.RowKit

/-- Types of plain data; a slice bears its element's size in cells and in bytes. -/
inductive Ty where
  | int (k : IntKind)
  | bool
  | str
  | sl (sz bytes : Nat) (e : Ty)
  | st (fs : List Ty)
mutual
/-- The values of a type, by cells. -/
def In : Ty → List V → Prop
  | .int k, xs => ∃ n, xs = [.int k n] ∧ (Lit.int k n).wf = true
  | .bool, xs => ∃ b, xs = [.bool b]
  | .str, xs => ∃ s, xs = [.str s] ∧ s.size ≤ reachBytes
  | .sl sz by_ e, xs => ∃ rows, xs = [.sl sz rows] ∧ rows.length * by_ ≤ reachBytes ∧ ∀ r ∈ rows, In e r
  | .st fs, xs => Ins fs xs
def Ins : List Ty → List V → Prop
  | [], xs => xs = []
  | T :: Ts, xs => ∃ a b, xs = a ++ b ∧ In T a ∧ Ins Ts b
end
mutual
/-- t is the program's type for T. -/
def OKT (P : Program) : Ty → TypeId → Prop
  | .int k, t => P.underlying t = some (.int k)
  | .bool, t => P.underlying t = some .bool
  | .str, t => P.underlying t = some .string
  | .sl sz by_ e, t => ∃ u, P.underlying t = some (.slice u) ∧ OKT P e u ∧ P.cellsOf u = sz ∧ P.bytesOf u = by_ ∧ 0 < sz
  | .st Fs, t => ∃ fs, P.underlying t = some (.struct fs) ∧ OKF P Fs fs.toList 0 (P.cellsOf t)
def OKF (P : Program) : List Ty → List Field → Nat → Nat → Prop
  | [], [], o, n => o = n
  | T :: Ts, f :: fs, o, n => f.offset = o ∧ OKT P T f.type ∧ OKF P Ts fs (o + P.cellsOf f.type) n
  | _, _, _, _ => False
end
section
variable {H : Type} {enc : TypeId × Value → H} {P : Program} {w : World} {sp : Nat → Bool} {held : Bool}
theorem cells_at {a : Addr} {n : Nat} {cs : List Value} (h : w.cells? 0 a n = some cs) : cs.length = n ∧ ∀ j u, cs[j]? = some u → w.cell? (a.add j) = some u := by
  unfold World.cells? at h
  rw [if_pos (Nat.zero_le _)] at h
  have hl := mapM_some_length h
  simp only [List.length_range] at hl
  refine ⟨hl, fun j u hu => ?_⟩
  have hj : j < n := by rw [← hl]; exact (List.getElem?_eq_some_iff.1 hu).1
  have := mapM_some_get h j j (by simp [hj])
  rw [hu] at this
  exact this
theorem cell_spot {a : Addr} {u : Value} (h : w.cell? a = some u) : a.spot = none ∧ a.block < w.heap.size := by
  unfold World.cell? at h
  split at h
  · rename_i c t fr hb
    refine ⟨?_, (Array.getElem?_eq_some_iff.1 hb).1⟩
    cases hs : a.spot with
    | none => rfl
    | some s => simp [hs] at h
  · cases h
theorem list_of {α : Type} {n : Nat} {p : Nat → α → Prop} (h : ∀ i, i < n → ∃ x, p i x) : ∃ l : List α, l.length = n ∧ ∀ i x, l[i]? = some x → p i x := by
  induction n with
  | zero => exact ⟨[], rfl, fun i x h => by simp at h⟩
  | succ n ih =>
    obtain ⟨l, h1, h2⟩ := ih fun i hi => h i (by omega)
    obtain ⟨x, hx⟩ := h n (by omega)
    refine ⟨l ++ [x], by simp [h1], fun i y hy => ?_⟩
    rcases getElem?_append_one l x y i hy with h3 | ⟨rfl, rfl⟩
    · exact h2 i y h3
    · rw [h1]; exact hx
theorem weightsAll_mem {e : TypeId} : ∀ {ds : List (DataW H)} {d : DataW H}, d ∈ ds → ∀ n ∈ d.weights P e, n ∈ DataW.weightsAll P e ds
  | d0 :: ds, d, h, n, hn => by
    simp only [DataW.weightsAll, List.mem_append]
    rcases List.mem_cons.1 h with rfl | h
    · exact .inl hn
    · exact .inr (weightsAll_mem h n hn)
abbrev c0 (w : World) : Cx := cx w (fun _ => False) [] []
theorem fz0c {b : Nat} (h : b < w.heap.size) : (c0 w).fz b := ⟨h, fun hz => by
  rcases hz with hz | ⟨o, ob, l, h, _⟩
  · exact hz
  · simp at h⟩
theorem RVs.two {c : Cx} {xs ys : List V} {us : List Value} {k : Nat} (h1 : RVs c xs (us.take k)) (h2 : RVs c ys (us.drop k)) : RVs c (xs ++ ys) us := by
  have := h1.append h2
  rwa [List.take_append_drop] at this
mutual
theorem read_sound : ∀ (T : Ty) (t : TypeId) (fuel : Nat) (cs : List Value) (x : DataW H × List MemPlace), OKT P T t → DataW.trod enc P w 0 sp held fuel t cs = some x → (∀ n ∈ x.1.weights P t, n ≤ reachBytes) → ∃ xs, RVs (c0 w) xs cs ∧ In T xs
  | .int k, t, fuel, cs, x, ht, h, hw => by
    obtain ⟨n, rfl, rfl, hwf⟩ := DataW.trod_int ht h
    exact ⟨[.int k n], RVs.one rfl, n, rfl, hwf⟩
  | .bool, t, fuel, cs, x, ht, h, hw => by
    obtain ⟨b, rfl, rfl⟩ := DataW.trod_bool ht h
    exact ⟨[.bool b], RVs.one rfl, b, rfl⟩
  | .str, t, fuel, cs, x, ht, h, hw => by
    obtain ⟨s, rfl, rfl, hs⟩ := DataW.trod_string ht h
    refine ⟨[.str s], RVs.one rfl, s, rfl, ?_⟩
    have := hw s.data.toList.length (by simp [DataW.weights])
    rw [Array.length_toList] at this
    exact this
  | .sl sz by_ e, t, fuel, cs, x, ⟨u, hu, he, hsz, hby, hpos⟩, h, hw => by
    rcases DataW.trod_slice hu h with ⟨rfl, rfl⟩ | ⟨a, len, cap, elems, rest, n, rfl, rfl, rfl, _, hl, hc, hlen, hel, _, _⟩
    · refine ⟨[.sl sz []], RVs.one ⟨none, 0, rfl, Nat.le_refl _, by simp, .inl rfl⟩, [], rfl, by simp, by simp⟩
    · have hwe : ∀ (i : Nat) (y : DataW H × List MemPlace), elems[i]? = some y → ∀ m ∈ y.1.weights P u, m ≤ reachBytes := by
        intro i y hy m hm
        refine hw m ?_
        simp only [DataW.weights, hu, List.mem_cons, List.mem_append]
        exact .inr (.inl (weightsAll_mem (List.mem_map.2 ⟨y, List.mem_of_getElem? hy, rfl⟩) m hm))
      have hrow : ∀ i, i < len → ∃ row : List V, (∃ cs, w.cells? 0 (a.add (i * P.cellsOf u)) (P.cellsOf u) = some cs ∧ RVs (c0 w) row cs) ∧ In e row := by
        intro i hi
        have h1 := hel i hi
        rw [List.getElem?_eq_getElem (by omega)] at h1
        cases hcs : w.cells? 0 (a.add (i * P.cellsOf u)) (P.cellsOf u) with
        | none => rw [hcs] at h1; cases h1
        | some cs =>
          rw [hcs] at h1
          obtain ⟨row, h2, h3⟩ := read_sound e u n cs _ he h1 (hwe i _ (List.getElem?_eq_getElem (by omega)))
          exact ⟨row, ⟨cs, rfl, h2⟩, h3⟩
      obtain ⟨rows, hrl, hrows⟩ := list_of hrow
      refine ⟨[.sl sz rows], RVs.one ⟨some a, cap, by rw [hrl], by omega, by have : maxLen = 2 ^ 63 - 1 := rfl; omega, ?_⟩, rows, rfl, ?_, ?_⟩
      · by_cases h0 : len = 0
        · exact .inl (List.eq_nil_of_length_eq_zero (by omega))
        · refine .inr ?_
          have key : ∀ i row, rows[i]? = some row → row.length = sz ∧ ∀ j y, row[j]? = some y → ∃ v, w.cell? ((a.add (i * sz)).add j) = some v ∧ RV (c0 w) y v := by
            intro i row hr
            obtain ⟨⟨cs, h1, h2⟩, _⟩ := hrows i row hr
            obtain ⟨h3, h4⟩ := cells_at h1
            rw [hsz] at h3 h4
            refine ⟨by rw [← h2.length]; exact h3, fun j y hy => ?_⟩
            obtain ⟨v, h5, h6⟩ := h2.get j hy
            exact ⟨v, h4 j v h5, h6⟩
          obtain ⟨row0, hr0⟩ : ∃ row, rows[0]? = some row := ⟨rows[0]'(by omega), List.getElem?_eq_getElem (by omega)⟩
          obtain ⟨hl0, hk0⟩ := key 0 row0 hr0
          obtain ⟨v0, hv0, _⟩ := hk0 0 (row0[0]'(by omega)) (List.getElem?_eq_getElem (by omega))
          have hadd : ∀ (a : Addr), a.add 0 = a := fun a => by simp [Addr.add]
          rw [Nat.zero_mul, hadd, hadd] at hv0
          obtain ⟨hs, hb⟩ := cell_spot hv0
          obtain ⟨ab, ao, asp⟩ := a
          simp only at hs hb
          subst hs
          refine ⟨ab, ao, rfl, fz0c hb, RR.of_get fun i row hr => ?_⟩
          obtain ⟨h1, h2⟩ := key i row hr
          refine ⟨h1, RC.of_get fun j y hy => ?_⟩
          obtain ⟨v, h3, h4⟩ := h2 j y hy
          refine ⟨v, ?_, h4⟩
          rw [add_plain, add_plain] at h3
          exact h3
      · have := hw ((elems.map (·.1)).length + (rest.map (·.1)).length |> (· * P.bytesOf u)) (by simp [DataW.weights, hu])
        rw [List.length_map, hlen] at this
        rw [hrl, ← hby]
        exact Nat.le_trans (Nat.mul_le_mul_right _ (Nat.le_add_right _ _)) this
      · intro r hr
        obtain ⟨i, hi⟩ := List.getElem?_of_mem hr
        exact (hrows i r hi).2
  | .st Fs, t, fuel, cs, x, ⟨fs, hfs, hok⟩, h, hw => by
    obtain ⟨xs, n, rfl, rfl, hlen, hxl, hget⟩ := DataW.trod_struct hfs h
    obtain ⟨ys, h1, h2⟩ := reads_sound Fs fs.toList 0 (P.cellsOf t) n cs xs hok (by simpa using hxl) hlen (fun i f hf => hget i f (by simpa using hf)) (fun m hm => hw m (by simpa [DataW.weights, hfs] using hm))
    exact ⟨ys, by simpa using h1, h2⟩
theorem reads_sound : ∀ (Ts : List Ty) (fs : List Field) (o m n : Nat) (cs : List Value) (xs : List (DataW H × List MemPlace)), OKF P Ts fs o m → xs.length = fs.length → cs.length = m →
    (∀ (i : Nat) (f : Field), fs[i]? = some f → DataW.trod enc P w 0 sp held n f.type ((cs.drop f.offset).take (P.cellsOf f.type)) = xs[i]?) → (∀ k ∈ DataW.weightsEach P (fs.map (·.type)) (xs.map (·.1)), k ≤ reachBytes) →
    ∃ ys, RVs (c0 w) ys (cs.drop o) ∧ Ins Ts ys
  | [], [], o, m, n, cs, xs, hok, hx, hc, hg, hw => by
    have hok : o = m := hok
    refine ⟨[], ?_, rfl⟩
    rw [List.drop_eq_nil_of_le (by omega)]
    rfl
  | T :: Ts, f :: fs, o, m, n, cs, [], hok, hx, hc, hg, hw => by simp at hx
  | T :: Ts, f :: fs, o, m, n, cs, x :: xs, ⟨ho, ht, hok⟩, hx, hc, hg, hw => by
    have h0 := hg 0 f rfl
    rw [ho] at h0
    obtain ⟨a, h1, h2⟩ := read_sound T f.type n _ x ht (by simpa using h0) (fun k hk => hw k (by simp [DataW.weightsEach, hk]))
    obtain ⟨b, h3, h4⟩ := reads_sound Ts fs _ m n cs xs hok (by simpa using hx) hc (fun i g hgi => by simpa using hg (i + 1) g (by simpa using hgi)) (fun k hk => hw k (by simp [DataW.weightsEach, hk]))
    refine ⟨a ++ b, ?_, a, b, rfl, h2, h4⟩
    refine RVs.two (k := P.cellsOf f.type) h1 ?_
    rw [List.drop_drop]
    exact h3
  | [], f :: fs, o, m, n, cs, xs, hok, _, _, _, _ => hok.elim
  | T :: Ts, [], o, m, n, cs, xs, hok, _, _, _, _ => hok.elim
end
end
end Go.Pm
