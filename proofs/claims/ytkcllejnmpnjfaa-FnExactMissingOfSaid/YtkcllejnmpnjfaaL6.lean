/- The abstract machine: the kit's sorts, as contracts on an array of the caller's. -/
import Derived.Test.YtkcllejnmpnjfaaL3
import Derived.Shelf.SlSortCmp.NoneTotal
section
set_option linter.unusedVariables false
set_option linter.unusedSimpArgs false
namespace Go.Pm
open Go.RowKit Go.Sort
theorem grow_of {w w' : World} (h : Grow w w') : ∃ q os, w' = Go.Sort.grow (w.drewN q) os := by
  refine ⟨w'.drawn - w.drawn, w'.heap.extract w.heap.size w'.heap.size, ?_⟩
  have h1 := h.os; have h2 := h.tape; have h3 := h.output; have h4 := h.size; have h5 := h.block; have h6 := h.drawn
  have hh : w'.heap = w.heap ++ w'.heap.extract w.heap.size w'.heap.size := by
    apply Array.ext_getElem?
    intro i
    rw [Array.getElem?_append]
    split
    · rename_i hi
      exact h5 i hi
    · rename_i hi
      rw [Array.getElem?_extract]
      split
      · congr 1; omega
      · rw [Array.getElem?_eq_none]; omega
  cases w' with
  | mk heap tape drawn os output =>
    simp only at h1 h2 h3 hh h6
    subst h1; subst h2; subst h3
    simp only [Go.Sort.grow, World.drewN]
    congr 1
    omega
/-- The world that a sort leaves. -/
theorem sorted_world {α : Type} [Inhabited α] {e1 : α → Value} {w : World} {b n : Nat} {D : Array α} {os : Array Obj} {us : Array Value} {e : TypeId} {fr : Nat × Nat} (hb : w.heap[b]? = some (.cells us e fr)) :
    (Go.Sort.grow (putRow e1 (Go.Sort.ahead w n) b 0 D) os).heap[b]? = some (.cells (putCells e1 0 D us) e fr) ∧ Frame (fun i => i = b) w (Go.Sort.grow (putRow e1 (Go.Sort.ahead w n) b 0 D) os) := by
  have hlt := (Array.getElem?_eq_some_iff.1 hb).1
  have hs : (putRow e1 (Go.Sort.ahead w n) b 0 D).heap.size = w.heap.size := by rw [size_putRow]; rfl
  have hg : ∀ i, i < w.heap.size → (Go.Sort.grow (putRow e1 (Go.Sort.ahead w n) b 0 D) os).heap[i]? = (putRow e1 (Go.Sort.ahead w n) b 0 D).heap[i]? := fun i hi => by
    show (_ ++ os)[i]? = _
    rw [Array.getElem?_append_left (by rw [hs]; exact hi)]
  have hm : ∀ i, (putRow e1 (Go.Sort.ahead w n) b 0 D).heap[i]? = if b = i then (w.heap[i]?).map (onCells (putCells e1 0 D)) else w.heap[i]? := fun i => by
    show (w.heap.modify b _)[i]? = _
    rw [Array.getElem?_modify]
  refine ⟨?_, ⟨rfl, rfl, rfl, ?_, fun i hi hne => ?_, Nat.le_add_right _ _⟩⟩
  · rw [hg b hlt, hm, if_pos rfl, hb]; rfl
  · show w.heap.size ≤ (_ ++ os).size
    rw [Array.size_append, hs]; omega
  · rw [hg i hi, hm, if_neg (fun h => hne h.symm)]
theorem size_putCells {α : Type} [Inhabited α] (e1 : α → Value) (D : Array α) (us : Array Value) : (putCells e1 0 D us).size = us.size := by simp [putCells]
theorem get_putCells {α : Type} [Inhabited α] (e1 : α → Value) (D : Array α) (us : Array Value) (j : Nat) (hj : j < D.size) (hu : D.size ≤ us.size) : (putCells e1 0 D us)[j]? = some (e1 D[j]!) := by
  have h2 : j < us.size := by omega
  simp [putCells, hj, h2]
theorem live_arr {k : Nat} {xs : List (List V)} {l : Lc} {b : Nat} : liveAt [.arr true k xs] [l] b ↔ l.cap ≠ 0 ∧ b = l.b := by
  constructor
  · rintro ⟨o, ob, l', h1, h2, h3⟩
    cases o with
    | zero =>
      simp at h1 h2
      subst h1; subst h2
      simp only [Ob.blk] at h3
      split at h3
      · cases h3
      · rename_i hc; injection h3 with h3; exact ⟨hc, h3.symm⟩
    | succ o => simp at h1
  · rintro ⟨h1, rfl⟩
    exact ⟨0, _, l, rfl, rfl, by simp only [Ob.blk]; rw [if_neg h1]⟩
/-- What the caller finds behind a sort. -/
theorem sorted_mem {α : Type} [Inhabited α] {e1 : α → Value} {w : World} {Zo : Nat → Prop} {l : Lc} {k n : Nat} {xs ys : List (List V)} {D : Array α} {os : Array Obj} {us : Array Value} {e : TypeId} {fr : Nat × Nat} {vs : List Value}
    (M : Mem w Zo [.arr true k xs] [l]) (hb : w.heap[l.b]? = some (.cells us e fr)) (hus : us.size = l.cap * k) (hc : l.cap ≠ 0) (hlen : ys.length = xs.length) (hrow : ∀ y ∈ ys, y.length = k) (hD : D.size = xs.length * k)
    (hp : Refs (fun _ => False) ys.flatten) (hv : RVs (cx w (fun b => Zo b ∨ liveAt [.arr true k xs] [l] b) [] []) ys.flatten vs) (hvs : ∀ j v, vs[j]? = some v → j < D.size ∧ e1 D[j]! = v) :
    Frame (liveAt [.arr true k xs] [l]) w (Go.Sort.grow (putRow e1 (Go.Sort.ahead w n) l.b 0 D) os) ∧ Mem (Go.Sort.grow (putRow e1 (Go.Sort.ahead w n) l.b 0 D) os) Zo [.arr true k ys] [l] ∧
      RVs (cx (Go.Sort.grow (putRow e1 (Go.Sort.ahead w n) l.b 0 D) os) Zo [.arr true k ys] [l]) (plc 0 [.arr true k xs]) (plv [.arr true k xs] [l]) ∧ ∀ b, liveAt [.arr true k ys] [l] b → liveAt [.arr true k xs] [l] b ∨ w.heap.size ≤ b := by
  obtain ⟨h1, h2⟩ := sorted_world (e1 := e1) (n := n) (D := D) (os := os) hb
  obtain ⟨k1, k2, k3, k4⟩ := M.ok 0 _ l rfl rfl
  rcases k4 with k4 | ⟨us0, e0, fr0, g1, g2, g3, g4, g5⟩
  · exact absurd k4 hc
  have g1 : w.heap[l.b]? = some (.cells us0 e0 fr0) := g1
  rw [hb] at g1
  injection g1 with g1
  injection g1 with g1 g6 g7
  subst g1; subst g6; subst g7
  generalize hW : Go.Sort.grow (putRow e1 (Go.Sort.ahead w n) l.b 0 D) os = W at h1 h2
  have hF : Frame (liveAt [.arr true k xs] [l]) w W := h2.mono fun i hi => live_arr.2 ⟨hc, hi⟩
  have hcle : D.size ≤ us.size := by rw [hD, hus]; exact Nat.mul_le_mul_right k k1
  have htr : Tr (cx w (fun b => Zo b ∨ liveAt [.arr true k xs] [l] b) [] []) (cx W Zo [.arr true k ys] [l]) (fun o => o) (fun _ => False) := by
    refine ⟨fun b hf => ⟨⟨Nat.lt_of_lt_of_le hf.1 hF.size, ?_⟩, hF.block b hf.1 fun q => hf.2 (.inl (.inr q))⟩, fun _ h => h.elim⟩
    rintro (hz | hz)
    · exact hf.2 (.inl (.inl hz))
    · exact hf.2 (.inl (.inr (live_arr.2 (live_arr.1 hz))))
  have hv2 : RVs (cx W Zo [.arr true k ys] [l]) ys.flatten vs := by
    have := RVs.tr htr ys.flatten vs hp hv
    rwa [rens_id] at this
  refine ⟨hF, ⟨rfl, ?_, ?_, ?_, fun b hz => Nat.lt_of_lt_of_le (M.zlt b hz) hF.size⟩, ?_, fun b hb => .inl (live_arr.2 (live_arr.1 hb))⟩
  · intro o ob l' a1 a2
    cases o with
    | zero =>
      simp at a1 a2
      subst a1; subst a2
      refine ⟨by rw [hlen]; exact k1, k2, k3, .inr ⟨_, _, _, h1, by rw [size_putCells]; exact g2, by rw [size_putCells]; exact g3, ?_, .inl rfl⟩⟩
      refine RR.of hrow hv2 fun j u hj => ?_
      show W.cell? ⟨l.b, 0 + j, none⟩ = some u
      rw [cell_at h1, Nat.zero_add]
      obtain ⟨q1, q2⟩ := hvs j u hj
      rw [get_putCells e1 D us j q1 hcle, q2]
    | succ o => simp at a1
  · intro o o' ob ob' l1 l2 b a1 a2 a3 a4 a5 a6
    cases o with
    | zero =>
      cases o' with
      | zero => rfl
      | succ o' => simp at a2
    | succ o => simp at a1
  · exact fun b hb hz => M.out b (live_arr.2 (live_arr.1 hb)) hz
  · refine ⟨_, _, rfl, ?_, ⟨_, _, rfl, ?_, rfl⟩⟩
    · exact ⟨by rw [hlen]; omega, _, rfl, fun _ => rfl⟩
    · rfl
section
variable {P : Program} {f c : FuncId}
/-- An element of the list, and its cells. -/
structure El {β : Type} (encB : β → List V) (l : List β) (c0 : Cx) where
  b : β
  row : List Value
  mem : b ∈ l
  rv : RVs c0 (encB b) row
theorem sort_get {β : Type} {encB : β → List V} {l : List β} {c0 : Cx} [Inhabited (El encB l c0)] {k : Nat} (henc : ∀ b, (encB b).length = k) (d : Array (El encB l c0)) (hk : 0 < k) :
    RVs c0 ((d.toList.map fun p => encB p.b).flatten) (d.toList.map (·.row)).flatten ∧ ∀ j v, ((d.toList.map (·.row)).flatten)[j]? = some v → j < (flatK (fun p : El encB l c0 => p.row) k d).size ∧ id (flatK (fun p : El encB l c0 => p.row) k d)[j]! = v := by
  constructor
  · generalize d.toList = L
    induction L with
    | nil => rfl
    | cons p L ih =>
      simp only [List.map_cons, List.flatten_cons]
      exact p.rv.append ih
  · intro j v hj
    have hrl : ∀ p : El encB l c0, p.row.length = k := fun p => by rw [p.rv.length, henc]
    have hlen : ((d.toList.map (·.row)).flatten).length = d.size * k := by
      rw [← Array.length_toList]
      generalize d.toList = L
      induction L with
      | nil => simp
      | cons p L ih =>
        simp only [List.map_cons, List.flatten_cons, List.length_append, List.length_cons, hrl, Nat.add_mul, Nat.one_mul, ih]
        omega
    have hjl := (List.getElem?_eq_some_iff.1 hj).1
    rw [hlen] at hjl
    refine ⟨by rw [size_flatK]; exact hjl, ?_⟩
    show (flatK _ k d)[j]! = v
    rw [get_flatK _ k d j hjl]
    have key : ∀ (L : List (El encB l c0)) (j : Nat), j < L.length * k → ((L.map (·.row)).flatten)[j]? = some ((L.getD (j / k) default).row.getD (j % k) default) := by
      intro L
      induction L with
      | nil => intro j h; simp at h
      | cons p L ih =>
        intro j h
        simp only [List.map_cons, List.flatten_cons]
        by_cases hlt : j < k
        · rw [List.getElem?_append_left (by rw [hrl]; exact hlt), Nat.div_eq_of_lt hlt, Nat.mod_eq_of_lt hlt]
          simp only [List.getD_cons_zero]
          rw [List.getD_eq_getElem?_getD, List.getElem?_eq_getElem (by rw [hrl]; exact hlt)]; rfl
        · rw [List.getElem?_append_right (by rw [hrl]; omega), hrl]
          have h2 : j - k < L.length * k := by simp only [List.length_cons, Nat.add_mul, Nat.one_mul] at h; omega
          have h3 : j / k = (j - k) / k + 1 := by rw [Nat.div_eq_sub_div hk (by omega)]
          have h4 : j % k = (j - k) % k := Nat.mod_eq_sub_mod (by omega)
          rw [ih _ h2, h3, h4, List.getD_cons_succ]
    have hdl : d.toList.length = d.size := Array.length_toList
    have := key d.toList j (by rw [hdl]; exact hjl)
    rw [hj] at this
    injection this with this
    rw [this]
    have hjd : j / k < d.size := (Nat.div_lt_iff_lt_mul hk).2 hjl
    have e1 : d[j / k]! = d.toList.getD (j / k) default := by
      rw [List.getD_eq_getElem?_getD, Array.getElem?_toList, getElem!_def]
      cases d[j / k]? <;> rfl
    rw [e1]
    have : ∀ (r : List Value) (i : Nat), r[i]! = r.getD i default := fun r i => by
      rw [List.getD_eq_getElem?_getD, getElem!_def]
      cases r[i]? <;> rfl
    rw [this]
theorem refs_app {ok : Nat → Prop} : ∀ {xs ys : List V}, Refs ok xs → Refs ok ys → Refs ok (xs ++ ys)
  | [], _, _, h => h
  | x :: xs, _, h1, h2 => ⟨h1.1, refs_app h1.2 h2⟩
/-- The elements, one by one. -/
theorem els {β : Type} {encB : β → List V} {l : List β} {c c0 : Cx} {b k : Nat} (hw : c.w = c0.w) (htr : ∀ x us, RVs c (encB x) us → RVs c0 (encB x) us) : ∀ (l1 : List β) (o : Nat), (∀ x ∈ l1, x ∈ l) → RR c k b o (l1.map encB) →
    ∃ L : List (El encB l c0), L.map (·.b) = l1 ∧ ∀ i p, L[i]? = some p → ∀ j u, p.row[j]? = some u → c0.w.cell? ⟨b, o + i * k + j, none⟩ = some u
  | [], o, _, _ => ⟨[], rfl, fun i p h => by simp at h⟩
  | x :: l1, o, hm, ⟨h1, h2, h3⟩ => by
    obtain ⟨row, k1, k2, k3⟩ := h2.list
    obtain ⟨L, g1, g2⟩ := els hw htr l1 (o + k) (fun y hy => hm y (List.mem_cons_of_mem _ hy)) h3
    refine ⟨⟨x, row, hm x List.mem_cons_self, htr x row k1⟩ :: L, by rw [List.map_cons, g1], fun i p hi j u hj => ?_⟩
    cases i with
    | zero =>
      simp at hi; subst hi
      rw [← hw]
      have := k3 j u hj
      simpa using this
    | succ i =>
      have := g2 i p (by simpa using hi) j u hj
      rw [Nat.add_mul, Nat.one_mul]
      rwa [show o + (i * k + k) + j = o + k + i * k + j by omega]
/-- What the kit says of its sort. -/
def KSort (P : Program) (f : FuncId) (k : Nat) : Prop := ∀ {α : Type} [Inhabited α] (enc : α → List Value) (hk : ∀ x, (enc x).length = k) (h1 : ∀ x, ∀ v ∈ enc x, v.oneCell' = true) (cf : α → α → Int) (hO : SWO (Go.Proofs.ltOf cf)) (g : Nat) (cb : Array Value) (blk off cap : Nat) (d : Array α) (w : World)
    (eg : ∀ args w, (callFunc g args).run P w = .ok (.enter g args) w) (hcmp : Go.Proofs.CmpLays P g cb enc k cf blk off d.size w) (hH : HoldsK enc k w blk off d) (hblk : blk < w.heap.size) (hsz : d.size < 4611686018427387904),
    Calls P f #[.slice (some ⟨blk, off, none⟩) d.size cap, .func (.func g) #[] cb] w fun e w' => e = .returned (.tuple #[]) ∧ ∃ d' n os, PermIn 0 d.size d d' ∧ SortedIn (Go.Proofs.ltOf cf) 0 d.size d' ∧ w' = Go.Proofs.sortWorldK enc k w blk off n d' os
def KSort0 (P : Program) (f : FuncId) : Prop := ∀ (p : Option Addr) (cap : Nat) (fv : Value) (w : World), Calls P f #[.slice p 0 cap, fv] w fun e w' => e = .returned (.tuple #[]) ∧ w' = w
theorem arr_eq {α : Type} [Inhabited α] (d : Array α) (i : Nat) (h : i < d.size) : d[i]? = some d[i]! := by
  rw [getElem!_pos d i h, Array.getElem?_eq_getElem h]
theorem LCon.sortK {β : Type} {encB : β → List V} {k : Nat} (henc : ∀ b, (encB b).length = k) (hk : 0 < k) (hpure : ∀ b, Refs (fun _ => False) (encB b)) (hone : ∀ b, ∀ z ∈ encB b, oneV [] z = true) {caps : List V} (hcaps : Refs (fun _ => False) caps) (cmpf : β → β → Int) {l l' : List β}
    (hc : ∀ x ∈ l, ∀ y ∈ l, Con P c ([.agg (encB x), .agg (encB y)] ++ caps) (.int .i64 (cmpf x y))) (s1 : ∀ x ∈ l, ¬ cmpf x x < 0) (s2 : ∀ x ∈ l, ∀ y ∈ l, ∀ z ∈ l, cmpf x y < 0 → cmpf y z < 0 → cmpf x z < 0) (s3 : ∀ x ∈ l, ∀ y ∈ l, ∀ z ∈ l, ¬ cmpf x y < 0 → ¬ cmpf y z < 0 → ¬ cmpf x z < 0)
    (hu : ∀ l2 : List β, l2.Perm l → l2.Pairwise (fun x y => ¬ cmpf y x < 0) → l2 = l') (hlen : l.length < 4611686018427387904) (hb : bodyOK P f = true) (eg : ∀ args w, (callFunc c args).run P w = .ok (.enter c args) w) (KS : KSort P f k) (K0 : KSort0 P f) :
    LCon P f [.ar 0 0 l.length, .fn c [] caps] [.arr true k (l.map encB)] (.tup []) [.arr true k (l'.map encB)] := by
  refine ⟨hb, ?_⟩
  intro w Zo β us M hargs
  obtain ⟨lc, rfl⟩ : ∃ lc, β = [lc] := by
    have := M.len
    match β, this with
    | [lc], _ => exact ⟨lc, rfl⟩
  obtain ⟨v0, vs0, rfl, hv0, hr⟩ := hargs
  obtain ⟨v1, vs1, rfl, hv1, rfl⟩ := hr
  obtain ⟨hln, A, rfl, hA⟩ : 0 + l.length ≤ (l.map encB).length ∧ ∃ A, v0 = .slice A l.length (lc.cap - 0) ∧ (0 < lc.cap → A = some ⟨lc.b, 0 * k, none⟩) := hv0
  obtain ⟨us0, cb, rfl, hf0, hcb⟩ := hv1
  have hf0 : us0.toList = [] := hf0
  obtain rfl : us0 = #[] := by cases us0; simp_all
  by_cases hl0 : l = []
  · subst hl0
    have e1 : l' = [] := (hu [] (List.Perm.refl _) List.Pairwise.nil).symm
    subst e1
    refine (K0 A (lc.cap - 0) _ w).mono ?_
    rintro e w' ⟨rfl, rfl⟩
    exact ⟨_, [lc], rfl, Frame.refl _ _, M, ⟨_, _, rfl, ⟨Nat.le_refl _, _, rfl, fun _ => rfl⟩, ⟨_, _, rfl, rfl, rfl⟩⟩, ⟨#[], rfl, rfl⟩, fun b hb => .inl hb⟩
  have hpos : 0 < l.length := List.length_pos_iff.2 hl0
  obtain ⟨k1, k2, k3, k4⟩ := M.ok 0 _ lc rfl rfl
  rw [List.length_map] at k1
  have hcap : lc.cap ≠ 0 := by omega
  rcases k4 with k4 | ⟨us, e, fr, g1, g2, g3, g4, g5⟩
  · exact absurd k4 hcap
  have g1 : w.heap[lc.b]? = some (.cells us e fr) := g1
  have hblk := (Array.getElem?_eq_some_iff.1 g1).1
  obtain rfl := hA (by omega)
  obtain ⟨c0, hc0⟩ : ∃ c0, c0 = cx w (fun b => Zo b ∨ liveAt [.arr true k (l.map encB)] [lc] b) [] [] := ⟨_, rfl⟩
  have hz0 : ∀ b, (cx w Zo [.arr true k (l.map encB)] [lc]).fz b → c0.fz b := fun b hf => by
    subst hc0
    refine ⟨hf.1, ?_⟩
    rintro (hz | ⟨o, ob, l1, h1, _⟩)
    · exact hf.2 hz
    · simp at h1
  have htr : ∀ xs us, Refs (fun _ => False) xs → RVs (cx w Zo [.arr true k (l.map encB)] [lc]) xs us → RVs c0 xs us := fun xs us hp h => by
    have := RVs.tr (c' := c0) (ρ := fun o => o) (ok := fun _ => False) ⟨fun b hf => ⟨hz0 b hf, by subst hc0; rfl⟩, fun _ h => h.elim⟩ xs us hp h
    rwa [rens_id] at this
  obtain ⟨L, hL1, hL2⟩ := els (c0 := c0) (l := l) (by subst hc0; rfl) (fun x us h => htr _ us (hpure x) h) l 0 (fun x hx => hx) g4
  have hLl : L.length = l.length := by have := congrArg List.length hL1; rwa [List.length_map] at this
  have hrl : ∀ p : El encB l c0, p.row.length = k := fun p => by rw [p.rv.length, henc]
  haveI : Inhabited (El encB l c0) := ⟨L[0]'(by omega)⟩
  obtain ⟨d, hd⟩ : ∃ d : Array (El encB l c0), d = L.toArray := ⟨_, rfl⟩
  have hds : d.size = l.length := by rw [hd]; simpa using hLl
  have hH : HoldsK (fun p : El encB l c0 => p.row) k w lc.b (0 * k) d := by
    intro j hj
    have hj : j < d.size * k := by rwa [size_flatK] at hj
    have hi : j / k < d.size := (Nat.div_lt_iff_lt_mul hk).2 hj
    have hm : j % k < k := Nat.mod_lt _ hk
    obtain ⟨p, hp⟩ : ∃ p, d[j / k]? = some p := ⟨_, Array.getElem?_eq_getElem hi⟩
    have hpe : d[j / k]! = p := by have := arr_eq d _ hi; rw [hp] at this; injection this with this; exact this.symm
    obtain ⟨u, hu2⟩ : ∃ u, p.row[j % k]? = some u := ⟨_, List.getElem?_eq_getElem (by rw [hrl]; exact hm)⟩
    have hcell := hL2 (j / k) p (by rw [hd] at hp; simpa using hp) (j % k) u hu2
    have hjj : 0 + j / k * k + j % k = j := by rw [Nat.zero_add, Nat.mul_comm]; exact Nat.div_add_mod j k
    rw [hjj] at hcell
    have hcell : w.cell? ⟨lc.b, j, none⟩ = some u := by subst hc0; exact hcell
    have hju : j < us.size := by
      rw [cell_at g1] at hcell
      exact (Array.getElem?_eq_some_iff.1 hcell).1
    refine ⟨?_, ?_⟩
    · rw [Nat.zero_mul, Nat.zero_add, hcell]
      show some u = some (flatK _ k d)[j]!
      rw [get_flatK _ k d j hj, hpe]
      congr 1
      rw [getElem!_def, hu2]
    · rw [Nat.zero_mul, Nat.zero_add]
      have := g3 j (by omega)
      simp only [World.frozen?, g1]
      simp only [Bool.and_eq_false_iff, decide_eq_false_iff_not]
      omega
  have h1 : ∀ p : El encB l c0, ∀ v ∈ p.row, v.oneCell' = true := fun p v hv => by
    have M0 : Mem w (fun b => Zo b ∨ liveAt [.arr true k (l.map encB)] [lc] b) [] [] := ⟨rfl, fun o ob l h => by simp at h, fun o o' ob ob' l l' b h => by simp at h, fun b ⟨o, ob, l, h, _⟩ => by simp at h, fun b hz => hz.elim (M.zlt b) fun h => M.live_lt h⟩
    have hrv := p.rv
    subst hc0
    exact one_list M0 (Agree.refl _) (hone p.b) hrv v hv
  have hO : SWO (Go.Proofs.ltOf fun p q : El encB l c0 => cmpf p.b q.b) := by
    refine ⟨fun x => ?_, fun x y z h1 h2 => ?_, fun x y z h1 h2 => ?_⟩ <;> simp only [Go.Proofs.ltOf, decide_eq_true_eq, decide_eq_false_iff_not] at *
    · exact s1 x.b x.mem
    · exact s2 _ x.mem _ y.mem _ z.mem h1 h2
    · exact s3 _ x.mem _ y.mem _ z.mem h1 h2
  have hcmp : Go.Proofs.CmpLays P c cb (fun p : El encB l c0 => p.row) k (fun p q => cmpf p.b q.b) lc.b (0 * k) d.size w := by
    intro m os dk hdk x y
    have hcon := hc x.b x.mem y.b y.mem
    obtain ⟨_, hF⟩ := sorted_world (e1 := id) (n := m) (D := flatK (fun p : El encB l c0 => p.row) k dk) (os := os) g1
    have hW : Go.Proofs.sortWorldK (fun p : El encB l c0 => p.row) k w lc.b (0 * k) m dk os = Go.Sort.grow (putRow id (Go.Sort.ahead w m) lc.b 0 (flatK (fun p : El encB l c0 => p.row) k dk)) os := by unfold Go.Proofs.sortWorldK putRowK; rw [Nat.zero_mul]
    rw [hW]
    generalize Go.Sort.grow (putRow id (Go.Sort.ahead w m) lc.b 0 (flatK (fun p : El encB l c0 => p.row) k dk)) os = W at hF
    have htr2 : ∀ xs us, Refs (fun _ => False) xs → RVs c0 xs us → RVs (cx W (fun b => Zo b ∨ liveAt [.arr true k (l.map encB)] [lc] b) [] []) xs us := fun xs us hp h => by
      have := RVs.tr (c' := cx W (fun b => Zo b ∨ liveAt [.arr true k (l.map encB)] [lc] b) [] []) (ρ := fun o => o) (ok := fun _ => False) ⟨fun b hf => by
        subst hc0
        refine ⟨⟨Nat.lt_of_lt_of_le hf.1 hF.size, hf.2⟩, hF.block b hf.1 fun hb => hf.2 (.inl (.inr (live_arr.2 ⟨hcap, hb⟩)))⟩, fun _ h => h.elim⟩ xs us hp h
      rwa [rens_id] at this
    have hcb2 := htr2 _ _ hcaps (htr _ _ hcaps hcb)
    have hx := htr2 _ _ (hpure x.b) x.rv
    have hy := htr2 _ _ (hpure y.b) y.rv
    have hz : ∀ b, (Zo b ∨ liveAt [.arr true k (l.map encB)] [lc] b) → b < W.heap.size := fun b hz => Nat.lt_of_lt_of_le (Or.elim hz (M.zlt b) fun h => M.live_lt h) hF.size
    have h := hcon.c W (fun b => Zo b ∨ liveAt [.arr true k (l.map encB)] [lc] b) ([.agg x.row.toArray, .agg y.row.toArray] ++ cb.toList) hz ⟨_, _, rfl, ⟨_, rfl, hx⟩, ⟨_, _, rfl, ⟨_, rfl, hy⟩, hcb2⟩⟩
    have harr : ([Value.agg x.row.toArray, Value.agg y.row.toArray] ++ cb.toList).toArray = #[.agg x.row.toArray, .agg y.row.toArray] ++ cb := by simp
    rw [harr] at h
    refine h.mono ?_
    rintro e w' ⟨v, β, rfl, G, _, hv, _⟩
    have hv : v = .int .i64 (cmpf x.b y.b) := hv
    subst hv
    obtain ⟨q, os', hw⟩ := grow_of G
    exact ⟨rfl, q, os', hw⟩
  have hcall := KS (fun p : El encB l c0 => p.row) hrl h1 (fun p q => cmpf p.b q.b) hO c cb lc.b (0 * k) (lc.cap - 0) d w eg hcmp hH hblk (by rw [hds]; exact hlen)
  rw [hds] at hcall
  refine hcall.mono ?_
  rintro e w' ⟨rfl, d', n, os, hp, hs, rfl⟩
  obtain ⟨p1, _, p3⟩ := hp
  have q1 : d'.extract 0 l.length = d' := by rw [← hds, ← p1]; simp
  have q2 : d.extract 0 l.length = d := by rw [← hds]; simp
  rw [q1, q2] at p3
  have e1 : d'.toList.map (·.b) = l' := by
    refine hu _ ?_ ?_
    · have := p3.map (·.b)
      rwa [hd, List.toList_toArray, hL1] at this
    · rw [List.pairwise_iff_getElem]
      intro i j hi hj hij
      have hi2 : i < d'.size := by simpa using hi
      have hj2 : j < d'.size := by simpa using hj
      have := hs i j (Nat.zero_le _) hij (by rw [← hds, ← p1]; exact hj2)
      simp only [Go.Proofs.ltOf, decide_eq_false_iff_not] at this
      rw [getElem!_pos d' i hi2, getElem!_pos d' j hj2] at this
      simpa using this
  have hrows : d'.toList.map (fun p => encB p.b) = l'.map encB := by rw [← e1, List.map_map]; rfl
  obtain ⟨r1, r2⟩ := sort_get henc d' hk
  rw [hrows] at r1
  obtain ⟨VV, hVV⟩ : ∃ VV, VV = (d'.toList.map (·.row)).flatten := ⟨_, rfl⟩
  rw [← hVV] at r1 r2
  rw [hc0] at r1
  have hW : Go.Proofs.sortWorldK (fun p : El encB l c0 => p.row) k w lc.b (0 * k) n d' os = Go.Sort.grow (putRow id (Go.Sort.ahead w n) lc.b 0 (flatK (fun p : El encB l c0 => p.row) k d')) os := by unfold Go.Proofs.sortWorldK putRowK; rw [Nat.zero_mul]
  rw [hW]
  have hll : l'.length = l.length := by rw [← e1, List.length_map, Array.length_toList, p1, hds]
  have hpp : ∀ L : List β, Refs (fun _ => False) (L.map encB).flatten := fun L => by
    induction L with
    | nil => trivial
    | cons b L ih => rw [List.map_cons, List.flatten_cons]; exact refs_app (hpure b) ih
  obtain ⟨m1, m2, m3, m4⟩ := sorted_mem (n := n) (os := os) (e1 := id) (ys := l'.map encB) (D := flatK (fun p : El encB l c0 => p.row) k d') M g1 g2 hcap (by rw [List.length_map, List.length_map, hll]) (fun y hy => by obtain ⟨b, _, rfl⟩ := List.mem_map.1 hy; exact henc b) (by rw [size_flatK, p1, hds, List.length_map]) (hpp l') r1 r2
  exact ⟨_, [lc], rfl, m1, m2, m3, ⟨#[], rfl, rfl⟩, m4⟩
/-- What the kit says of its sort of numbers. -/
def KSortI (P : Program) (f : FuncId) : Prop := ∀ (blk off cap : Nat) (zs : List Int) (w : World), Holds (Value.int .i64) w blk off zs.toArray → blk < w.heap.size → zs.length < 4611686018427387904 →
    Calls P f #[.slice (some ⟨blk, off, none⟩) zs.length cap] w fun e w' => e = .returned (.tuple #[]) ∧ ∃ n os, w' = Go.Sort.grow (putRow (Value.int .i64) (Go.Sort.ahead w n) blk off (zs.mergeSort fun x y => decide (x ≤ y)).toArray) os
def KSortI0 (P : Program) (f : FuncId) : Prop := ∀ (p : Option Addr) (cap : Nat) (w : World), Calls P f #[.slice p 0 cap] w fun e w' => e = .returned (.tuple #[]) ∧ w' = w
theorem LCon.sortI {l : List Int} (hlen : l.length < 4611686018427387904) (hb : bodyOK P f = true) (KS : KSortI P f) (K0 : KSortI0 P f) :
    LCon P f [.ar 0 0 l.length] [.arr true 1 (l.map fun z => [V.int .i64 z])] (.tup []) [.arr true 1 ((l.mergeSort fun x y => decide (x ≤ y)).map fun z => [V.int .i64 z])] := by
  refine ⟨hb, ?_⟩
  intro w Zo β us M hargs
  obtain ⟨lc, rfl⟩ : ∃ lc, β = [lc] := by
    have := M.len
    match β, this with
    | [lc], _ => exact ⟨lc, rfl⟩
  obtain ⟨v0, vs0, rfl, hv0, rfl⟩ := hargs
  obtain ⟨hln, A, rfl, hA⟩ : 0 + l.length ≤ (l.map fun z => [V.int .i64 z]).length ∧ ∃ A, v0 = .slice A l.length (lc.cap - 0) ∧ (0 < lc.cap → A = some ⟨lc.b, 0 * 1, none⟩) := hv0
  by_cases hl0 : l = []
  · subst hl0
    have e0 : ([] : List Int).mergeSort (fun x y => decide (x ≤ y)) = [] := by simp
    rw [e0]
    refine (K0 A (lc.cap - 0) w).mono ?_
    rintro e w' ⟨rfl, rfl⟩
    exact ⟨_, [lc], rfl, Frame.refl _ _, M, ⟨_, _, rfl, ⟨Nat.le_refl _, _, rfl, fun _ => rfl⟩, ⟨_, _, rfl, rfl, rfl⟩⟩, ⟨#[], rfl, rfl⟩, fun b hb => .inl hb⟩
  have hpos : 0 < l.length := List.length_pos_iff.2 hl0
  obtain ⟨k1, k2, k3, k4⟩ := M.ok 0 _ lc rfl rfl
  rw [List.length_map] at k1
  have hcap : lc.cap ≠ 0 := by omega
  rcases k4 with k4 | ⟨us, e, fr, g1, g2, g3, g4, g5⟩
  · exact absurd k4 hcap
  have g1 : w.heap[lc.b]? = some (.cells us e fr) := g1
  have hblk := (Array.getElem?_eq_some_iff.1 g1).1
  obtain rfl := hA (by omega)
  have hH : Holds (Value.int .i64) w lc.b (0 * 1) l.toArray := by
    intro j hj
    have hj : j < l.length := by simpa using hj
    obtain ⟨x, hx⟩ : ∃ x, l[j]? = some x := ⟨_, List.getElem?_eq_getElem hj⟩
    obtain ⟨_, h2⟩ := g4.get j (x := [V.int .i64 x]) (by rw [List.getElem?_map, hx]; rfl)
    obtain ⟨⟨u, h3, h4⟩, _⟩ := h2
    have h4 : u = .int .i64 x := h4
    have h3 : w.cell? ⟨lc.b, 0 + j * 1, none⟩ = some u := h3
    rw [Nat.zero_add, Nat.mul_one] at h3
    have hju : j < us.size := by
      rw [cell_at g1] at h3
      exact (Array.getElem?_eq_some_iff.1 h3).1
    refine ⟨?_, ?_⟩
    · rw [Nat.zero_mul, Nat.zero_add, h3, h4]
      congr 2
      rw [getElem!_def, List.getElem?_toArray, hx]
    · rw [Nat.zero_mul, Nat.zero_add]
      have := g3 j (by omega)
      simp only [World.frozen?, g1]
      simp only [Bool.and_eq_false_iff, decide_eq_false_iff_not]
      omega
  refine (KS lc.b (0 * 1) (lc.cap - 0) l w hH hblk hlen).mono ?_
  rintro e w' ⟨rfl, n, os, rfl⟩
  have hll : (l.mergeSort fun x y => decide (x ≤ y)).length = l.length := (List.mergeSort_perm _ _).length_eq
  obtain ⟨L, hL⟩ : ∃ L, L = l.mergeSort fun x y => decide (x ≤ y) := ⟨_, rfl⟩
  rw [← hL] at hll
  rw [← hL, Nat.zero_mul]
  have hfl : ∀ L : List Int, (L.map fun z => [V.int .i64 z]).flatten = L.map fun z => V.int .i64 z := fun L => by
    induction L with
    | nil => rfl
    | cons x L ih => rw [List.map_cons, List.flatten_cons, ih]; rfl
  have hpp : ∀ L : List Int, Refs (fun _ => False) (L.map fun z => V.int .i64 z) := fun L => by
    induction L with
    | nil => trivial
    | cons b L ih => exact ⟨trivial, ih⟩
  have hrv : ∀ (c : Cx) (L : List Int), RVs c (L.map fun z => V.int .i64 z) (L.map (Value.int .i64)) := fun c L => by
    induction L with
    | nil => rfl
    | cons b L ih => exact ⟨_, _, rfl, rfl, ih⟩
  obtain ⟨m1, m2, m3, m4⟩ := sorted_mem (n := n) (os := os) (e1 := Value.int .i64) (ys := L.map fun z => [V.int .i64 z]) (D := L.toArray) (vs := L.map (Value.int .i64)) M g1 g2 hcap (by rw [List.length_map, List.length_map, hll]) (fun y hy => by obtain ⟨b, _, rfl⟩ := List.mem_map.1 hy; rfl) (by rw [List.size_toArray, List.length_map, hll, Nat.mul_one]) (by rw [hfl]; exact hpp L) (by rw [hfl]; exact hrv _ L) (fun j v hj => by
    obtain ⟨x, h1, h2⟩ : ∃ x, L[j]? = some x ∧ Value.int .i64 x = v := by
      rw [List.getElem?_map] at hj
      exact Option.map_eq_some_iff.1 hj
    refine ⟨by simpa using (List.getElem?_eq_some_iff.1 h1).1, ?_⟩
    rw [← h2, getElem!_def, List.getElem?_toArray, h1])
  exact ⟨_, [lc], rfl, m1, m2, m3, ⟨#[], rfl, rfl⟩, m4⟩
end
end Go.Pm
end
