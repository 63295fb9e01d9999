/- The abstract machine: a drawn region is sound. -/
import Derived.Test.YtkdaijcdddomjaaPm16
set_option linter.unusedVariables false
set_option linter.unusedSimpArgs false
namespace Go.Pm
open Go.RowKit

/-- The operations that i waits for. -/
def waits (ops : Array Oper) (i : Nat) : List Nat := match ops[i]? with
  | some o => (o.after.toList.filter (Region.binds .any)).map (·.on)
  | none => []
/-- The operations that i waits for, or that these wait for. -/
inductive Anc (ops : Array Oper) : Nat → Nat → Prop
  | one {i j : Nat} : j ∈ waits ops i → Anc ops i j
  | more {i l j : Nat} : l ∈ waits ops i → Anc ops l j → Anc ops i j
def ancs : List (List Nat) → List (List Nat) → List (List Nat)
  | [], acc => acc
  | w :: ws, acc => ancs ws (acc ++ [(List.range acc.length).filter fun j => w.contains j || w.any fun l => (acc.getD l []).contains j])
/-- Any order of the first k operations, and the text's order of the rest, comes to what the order of the text comes to. -/
structure Any (ops : Array Oper) (fl : List Nat) (k : Nat) : Prop where
  early : ∀ i, i < ops.size → ∀ j ∈ waits ops i, j < i
  slot : ∀ (i j : Nat) (oi oj : Oper) (s : Tmp), i < k → j < k → i ≠ j → ops[i]? = some oi → ops[j]? = some oj → s ∈ oi.looksAt ops → oj.dst = some s → j ∈ waits ops i ∨ i ∈ waits ops j
  once : ∀ (i j : Nat) (oi oj : Oper) (s : Tmp), i < k → j < k → i ≠ j → ops[i]? = some oi → ops[j]? = some oj → oi.dst = some s → oj.dst ≠ some s
  tail : ∀ i, k ≤ i → i < ops.size → ∀ j, j < i → j ∉ fl → Anc ops i j
  le : k ≤ ops.size
  flt : ∀ f ∈ fl, f < k
def anyF (ops : Array Oper) (fl : List Nat) (k : Nat) : Bool :=
  let l := ops.toList
  let ws := l.map fun o => (o.after.toList.filter (Region.binds .any)).map (·.on)
  let ds := l.map (·.dst)
  let ls := l.map fun o => o.looksAt ops
  let as := ancs ws []
  k ≤ l.length && (fl.all fun f => Nat.blt f k) &&
  (List.range l.length).all fun i =>
    ((ws.getD i []).all fun j => Nat.blt j i) &&
    if Nat.blt i k then
      (List.range k).all fun j => Nat.beq i j ||
        (match ds.getD j none with
          | none => true
          | some s => (match ds.getD i none with
              | some s' => !Nat.beq s s'
              | none => true) && (!(ls.getD i []).contains s || (ws.getD i []).contains j || (ws.getD j []).contains i))
    else (List.range i).all fun j => fl.contains j || (as.getD i []).contains j
def anyB (ops : Array Oper) (k : Nat) : Bool := anyF ops [] k
theorem blt_iff {i j : Nat} : Nat.blt i j = true ↔ i < j := by rw [Nat.blt_eq]
theorem ancs_sound {ops : Array Oper} : ∀ (ws acc : List (List Nat)), (∀ i, ws.getD i [] = waits ops (acc.length + i) ∨ ws.length ≤ i) → (∀ i, ∀ j ∈ acc.getD i [], Anc ops i j) → ∀ i, ∀ j ∈ (ancs ws acc).getD i [], Anc ops i j
  | [], acc, _, h => h
  | w :: ws, acc, hw, h => by
    refine ancs_sound ws _ (fun i => ?_) (fun i j hj => ?_)
    · have := hw (i + 1)
      simp only [List.getD_cons_succ, List.length_cons, Nat.add_le_add_iff_right] at this
      rw [List.length_append, List.length_singleton, show acc.length + 1 + i = acc.length + (i + 1) by omega]
      exact this
    · rw [List.getD_eq_getElem?_getD] at hj
      rcases Nat.lt_trichotomy i acc.length with hi | hi | hi
      · rw [List.getElem?_append_left hi] at hj
        exact h i j (by rw [List.getD_eq_getElem?_getD]; exact hj)
      · subst hi
        rw [List.getElem?_append_right (Nat.le_refl _)] at hj
        simp only [Nat.sub_self, List.getElem?_cons_zero, Option.getD_some, List.mem_filter, Bool.or_eq_true, List.contains_iff_mem, List.any_eq_true] at hj
        have hw0 : w = waits ops acc.length := by
          have := hw 0
          simp only [List.getD_cons_zero, List.length_cons, Nat.add_zero] at this
          rcases this with this | this
          · exact this
          · omega
        rw [hw0] at hj
        rcases hj.2 with h1 | ⟨l, h1, h2⟩
        · exact .one h1
        · exact .more h1 (h l j h2)
      · rw [List.getElem?_eq_none (by simp; omega)] at hj
        simp at hj
theorem Any.of {ops : Array Oper} {fl : List Nat} {k : Nat} (h : anyF ops fl k = true) : Any ops fl k := by
  have hws : ∀ i, (ops.toList.map fun o => (o.after.toList.filter (Region.binds .any)).map (·.on)).getD i [] = waits ops i := by
    intro i
    unfold waits
    rw [List.getD_eq_getElem?_getD, List.getElem?_map, Array.getElem?_toList]
    cases ops[i]? <;> rfl
  have hds : ∀ (i : Nat) (o : Oper), ops[i]? = some o → (ops.toList.map (·.dst)).getD i none = o.dst := by
    intro i o ho
    rw [List.getD_eq_getElem?_getD, List.getElem?_map, Array.getElem?_toList, ho]
    rfl
  have hls : ∀ (i : Nat) (o : Oper), ops[i]? = some o → (ops.toList.map (fun o => o.looksAt ops)).getD i [] = o.looksAt ops := by
    intro i o ho
    rw [List.getD_eq_getElem?_getD, List.getElem?_map, Array.getElem?_toList, ho]
    rfl
  unfold anyF at h
  simp only [Bool.and_eq_true, decide_eq_true_eq, List.all_eq_true, List.mem_range, Array.length_toList, hws] at h
  obtain ⟨⟨hk, hfl⟩, h⟩ := h
  have lt_of : ∀ (i : Nat) (o : Oper), ops[i]? = some o → i < ops.size := fun i o ho => (Array.getElem?_eq_some_iff.1 ho).1
  have key : ∀ (i j : Nat) (oi oj : Oper) (s : Tmp), i < k → j < k → i ≠ j → ops[i]? = some oi → ops[j]? = some oj → oj.dst = some s →
      (∀ s', oi.dst = some s' → s ≠ s') ∧ (s ∈ oi.looksAt ops → j ∈ waits ops i ∨ i ∈ waits ops j) := by
    intro i j oi oj s hi hj hne hoi hoj hd
    have h1 := (h i (lt_of i oi hoi)).2
    rw [if_pos (blt_iff.2 hi)] at h1
    have h2 := List.all_eq_true.1 h1 j (List.mem_range.2 hj)
    rw [hds j oj hoj, hd, hds i oi hoi, hls i oi hoi] at h2
    have hb : Nat.beq i j = false := by
      cases hb : Nat.beq i j
      · rfl
      · exact absurd (Nat.eq_of_beq_eq_true hb) hne
    rw [hb, Bool.false_or] at h2
    simp only [Bool.and_eq_true, Bool.or_eq_true, Bool.not_eq_true', List.contains_iff_mem] at h2
    refine ⟨fun s' hs' hss => ?_, fun hm => ?_⟩
    · rw [hs'] at h2
      simp only [Bool.not_eq_true'] at h2
      subst hss
      have := h2.1
      simp at this
    · rcases h2.2 with (h3 | h3) | h3
      · have : (oi.looksAt ops).contains s = true := List.contains_iff_mem.2 hm
        rw [this] at h3
        cases h3
      · exact .inl h3
      · exact .inr h3
  refine ⟨?_, ?_, ?_, ?_, hk, fun f hf => blt_iff.1 (hfl f hf)⟩
  · intro i hi j hj
    exact blt_iff.1 ((h i hi).1 j hj)
  · intro i j oi oj s hi hj hne hoi hoj hm hd
    exact (key i j oi oj s hi hj hne hoi hoj hd).2 hm
  · intro i j oi oj s hi hj hne hoi hoj hd hd'
    exact (key i j oi oj s hi hj hne hoi hoj hd').1 s hd rfl
  · intro i hki hi j hj hjf
    have h1 := (h i hi).2
    rw [if_neg (fun q => by have := blt_iff.1 q; omega)] at h1
    have h2 := List.all_eq_true.1 h1 j (List.mem_range.2 hj)
    simp only [Bool.or_eq_true, List.contains_iff_mem] at h2
    refine ancs_sound (ops := ops) _ [] (fun i => .inl ?_) (fun i j hj => by simp at hj) i j (h2.resolve_left hjf)
    rw [hws]; simp

theorem Anc.lt {ops : Array Oper} (he : ∀ i, i < ops.size → ∀ j ∈ waits ops i, j < i) {i j : Nat} (h : Anc ops i j) : i < ops.size → j < i := by
  induction h with
  | one h => exact fun hi => he _ hi _ h
  | more h _ ih => exact fun hi => by have := he _ hi _ h; have := ih (by omega); omega
theorem waits_spec {ops : Array Oper} {i j : Nat} {o : Oper} (ho : ops[i]? = some o) : j ∈ waits ops i ↔ ∃ e ∈ o.after, Region.binds .any e = true ∧ e.on = j := by
  unfold waits
  rw [ho]
  simp [List.mem_map, List.mem_filter, and_assoc]
theorem ready_waits {ops : Array Oper} {listed : Array Bool} {i : Nat} (h : i ∈ Region.ready .any ops listed) : listed.getD i true = false ∧ i < ops.size ∧ ∀ j ∈ waits ops i, listed.getD j false = true := by
  obtain ⟨h1, o, ho, h2⟩ := mem_ready.1 h
  refine ⟨h1, (Array.getElem?_eq_some_iff.1 ho).1, fun j hj => ?_⟩
  obtain ⟨e, he, hb, rfl⟩ := (waits_spec ho).1 hj
  exact h2 e he hb
/-- While something is unlisted, something is ready. -/
theorem ready_some {ops : Array Oper} {listed : Array Bool} (hs : listed.size = ops.size) (he : ∀ i, i < ops.size → ∀ j ∈ waits ops i, j < i) (h : Region.ready .any ops listed = []) : ∀ i, i < ops.size → listed[i]? = some true := by
  intro i
  induction i using Nat.strongRecOn with
  | ind i ih =>
    intro hi
    rcases hb : listed[i]? with _ | b
    · rw [Array.getElem?_eq_none_iff] at hb; omega
    · cases b
      · exfalso
        have : i ∈ Region.ready .any ops listed := by
          refine mem_ready.2 ⟨by rw [Array.getD_eq_getD_getElem?, hb]; rfl, ops[i], Array.getElem?_eq_getElem hi, fun e hee hbb => ?_⟩
          have hw : e.on ∈ waits ops i := (waits_spec (Array.getElem?_eq_getElem hi)).2 ⟨e, hee, hbb, rfl⟩
          have hlt := he i hi _ hw
          rw [Array.getD_eq_getD_getElem?, ih _ hlt (by omega)]
          rfl
        rw [h] at this
        cases this
      · rfl

section
variable {P : Program} {ops : Array Oper} {K : St → Prop} {w0 : World} {E Zo : Nat → Prop} {gh : List Value} {Q : Exit → Act → World → Prop}
def flags (n i : Nat) : Array Bool := ((List.range n).map fun j => decide (j < i)).toArray
theorem flags_get (n i j : Nat) (h : j < n) : (flags n i)[j]? = some (decide (j < i)) := by
  simp [flags, h]
theorem flags_next {n i : Nat} (hi : i < n) : (flags n i).setIfInBounds i true = flags n (i + 1) := by
  apply Array.ext_getElem?
  intro j
  rw [Array.getElem?_setIfInBounds]
  by_cases hj : j < n
  · rw [flags_get n _ j hj, flags_get n _ j hj]
    by_cases e : i = j
    · subst e; simp [flags, hi]
    · simp only [e, if_false]
      congr 1
      rw [decide_eq_decide]
      omega
  · have h1 : (flags n i)[j]? = none := by rw [Array.getElem?_eq_none_iff]; simp [flags]; omega
    have h2 : (flags n (i + 1))[j]? = none := by rw [Array.getElem?_eq_none_iff]; simp [flags]; omega
    rw [h1, h2, if_neg (by omega)]
/-- The rest, in the order of the text. -/
theorem tail_sound {fl : List Nat} {k : Nat} (A : Any ops fl k) (hQ : ∀ st a w, K st → Rel w0 E Zo gh st a w → Q .normal a w) :
    ∀ (fuel i : Nat) (st : St) (a : Act) (w : World), k ≤ i → i ≤ ops.size → ops.size ≤ i + fuel → RS P (dsts ops) (ops.toList.drop i) st K → Rel w0 E Zo gh st a w → wpAny P .any ops Q fuel (flags ops.size i) a w := by
  intro fuel
  induction fuel with
  | zero =>
    intro i st a w hk hi hf h r
    have : i = ops.size := by omega
    subst this
    have hd : ops.toList.drop ops.size = [] := by simp
    rw [hd] at h
    have hr : Region.ready .any ops (flags ops.size ops.size) = [] := by
      rcases hl : Region.ready .any ops (flags ops.size ops.size) with _ | ⟨j, js⟩
      · rfl
      · exfalso
        have hj : j ∈ Region.ready .any ops (flags ops.size ops.size) := by rw [hl]; exact List.mem_cons_self
        obtain ⟨h1, h2, _⟩ := ready_waits hj
        rw [Array.getD_eq_getD_getElem?, flags_get _ _ _ h2] at h1
        simp [h2] at h1
    exact ⟨hr, hQ st a w h r⟩
  | succ fuel ih =>
    intro i st a w hk hi hf h r
    by_cases hend : i = ops.size
    · subst hend
      have hd : ops.toList.drop ops.size = [] := by simp
      rw [hd] at h
      have hr : Region.ready .any ops (flags ops.size ops.size) = [] := by
        rcases hl : Region.ready .any ops (flags ops.size ops.size) with _ | ⟨j, js⟩
        · rfl
        · exfalso
          have hj : j ∈ Region.ready .any ops (flags ops.size ops.size) := by rw [hl]; exact List.mem_cons_self
          obtain ⟨h1, h2, _⟩ := ready_waits hj
          rw [Array.getD_eq_getD_getElem?, flags_get _ _ _ h2] at h1
          simp [h2] at h1
      exact ⟨fun _ => hQ st a w h r, by rw [hr]; simp⟩
    · have hlt : i < ops.size := by omega
      refine ⟨fun hr => ?_, fun j hj => ?_⟩
      · exfalso
        have := ready_some (by simp [flags]) A.early hr i hlt
        rw [flags_get _ _ _ hlt] at this
        simp at this
      · obtain ⟨h1, h2, h3⟩ := ready_waits hj
        rw [Array.getD_eq_getD_getElem?, flags_get _ _ _ h2] at h1
        have h1 : i ≤ j := by simpa using h1
        have hji : j = i := by
          by_cases hne : j = i
          · exact hne
          · exfalso
            have hlst : ∀ l ∈ waits ops j, l < i := by
              intro l hl
              have hlj := A.early j h2 l hl
              have := h3 l hl
              rw [Array.getD_eq_getD_getElem?, flags_get _ _ _ (by omega)] at this
              simpa using this
            cases A.tail j (by omega) h2 i (by omega) (fun hf => by have := A.flt i hf; omega) with
            | one h => have := hlst i h; omega
            | more h k =>
              have h4 := hlst _ h
              have := k.lt A.early (by omega)
              omega
        subst hji
        rw [flags_next hlt]
        have ho : ops[j]? = some ops[j] := Array.getElem?_eq_getElem hlt
        have hd : ops.toList.drop j = ops[j] :: ops.toList.drop (j + 1) := by
          rw [List.drop_eq_getElem_cons (by simpa using hlt)]
          simp
        rw [hd] at h
        unfold wpOp
        rw [ho]
        simp only
        obtain ⟨β, M, g1, g2, g3, g4, g5⟩ := r
        rcases gv_cases h with ⟨hw, hA⟩ | ⟨hw, hB⟩
        · have hw' := wantT_sound (x := .junk) (a := a) hw (fun _ _ d _ _ => by
            have h1 := g4.getD d undef
            have h2 : a.tmps.toList.getD d undef = a.tmps.getD d undef := by simp
            rwa [h2] at h1)
          rw [if_pos hw']
          refine .inl (Oper.wp_mono ?_ (S1_sound hA w0 E Zo gh a w Q ⟨β, M, g1, g2, g3, g4, g5⟩))
          rintro a' w' ⟨st', hk', hr'⟩
          exact ih (j + 1) st' a' w' (by omega) (by omega) (by omega) hk' hr'
        · have hw' := wantT_sound (x := .junk) (a := a) hw (fun _ _ d _ _ => by
            have h1 := g4.getD d undef
            have h2 : a.tmps.toList.getD d undef = a.tmps.getD d undef := by simp
            rwa [h2] at h1)
          rw [if_neg (by rw [hw']; decide)]
          exact ih (j + 1) _ _ w (by omega) (by omega) (by omega) hB ⟨β, M, g1, g2, by cases (ops[j]).dst <;> exact g3, g4.put (x := .tup []) RV_udf (ops[j]).dst, g5⟩

/-- What is so in the midst of a drawn order. -/
def Part (ops : Array Oper) (k : Nat) (st : St) (rs : List Res) (w0 : World) (E Zo : Nat → Prop) (gh : List Value) (F : List Bool) (a : Act) (w : World) : Prop :=
  Rel w0 E Zo gh ⟨runT (ops.toList.take k) rs F st.t, st.m ++ flatM rs F, st.g⟩ a w
def lay0 (n : Nat) (F : List Bool) : Array Bool := (F ++ List.replicate (n - F.length) false).toArray
theorem lay0_set {n i : Nat} {F : List Bool} (h : i < F.length) : (lay0 n F).setIfInBounds i true = lay0 n (F.set i true) := by
  unfold lay0
  simp [List.setIfInBounds_toArray, List.set_append_left _ _ h]
theorem lay0_get {n i : Nat} {F : List Bool} (h : i < F.length) : (lay0 n F)[i]? = F[i]? := by
  unfold lay0
  simp [List.getElem?_append_left h]
theorem lay0_get' {n i : Nat} {F : List Bool} (h : F.length ≤ i) (hn : i < n) : (lay0 n F)[i]? = some false := by
  unfold lay0
  simp only [List.getElem?_toArray]
  rw [List.getElem?_append_right h, List.getElem?_replicate, if_pos (by omega)]
theorem lay0_all {n k : Nat} (h : k ≤ n) : lay0 n (List.replicate k true) = flags n k := by
  apply Array.ext_getElem?
  intro j
  by_cases hj : j < n
  · rw [flags_get n k j hj]
    by_cases hk : j < k
    · rw [lay0_get (by simpa using hk), List.getElem?_replicate, if_pos hk]
      simp [hk]
    · rw [lay0_get' (by simp; omega) hj]
      simp [hk]
  · have h1 : (lay0 n (List.replicate k true))[j]? = none := by rw [Array.getElem?_eq_none_iff]; simp [lay0]; omega
    have h2 : (flags n k)[j]? = none := by rw [Array.getElem?_eq_none_iff]; simp [flags]; omega
    rw [h1, h2]

theorem all_true : ∀ {F : List Bool}, (∀ j, j < F.length → F[j]? = some true) → F = List.replicate F.length true
  | [], _ => rfl
  | b :: F, h => by
    have h0 : b = true := by simpa using h 0 (by simp)
    subst h0
    have := all_true (F := F) (fun j hj => by simpa using h (j + 1) (by simpa using hj))
    simp only [List.length_cons, List.replicate_succ]
    rw [← this]
def left : List Bool → Nat
  | [] => 0
  | b :: F => (if b then 0 else 1) + left F
theorem left_set : ∀ {F : List Bool} {i : Nat}, F[i]? = some false → left (F.set i true) + 1 = left F
  | b :: F, 0, h => by
    have h : b = false := by simpa using h
    subst h
    simp [left]; omega
  | b :: F, i + 1, h => by
    have := left_set (F := F) (i := i) (by simpa using h)
    simp only [List.set_cons_succ, left]
    omega
  | [], _, h => by simp at h
theorem left_zero : ∀ {F : List Bool}, left F = 0 → F = List.replicate F.length true
  | [], _ => rfl
  | b :: F, h => by
    cases b
    · simp [left] at h
    · simp only [left, if_true, Nat.zero_add] at h
      simp only [List.length_cons, List.replicate_succ]
      rw [← left_zero h]

theorem left_rep : ∀ n : Nat, left (List.replicate n true) = 0
  | 0 => rfl
  | n + 1 => by simp [List.replicate_succ, left, left_rep n]
theorem head_step {fl : List Nat} {k : Nat} {st st' : St} {rs : List Res} (A : Any ops fl k) (hrun : Run P (dsts ops) (ops.toList.take k) st rs st') {F : List Bool} {a : Act} {w : World} (hF : F.length = k)
    (hc : ∀ i, F[i]? = some true → ∀ j ∈ waits ops i, F[j]? = some true) (r : Part ops k st rs w0 E Zo gh F a w) {i : Nat} (hik : i < k) (h2 : i < ops.size) (hiF : F[i]? = some false) (h3' : ∀ j ∈ waits ops i, F[j]? = some true)
    {K' : Act → World → Prop} (hnext : ∀ (a' : Act) (w' : World), Part ops k st rs w0 E Zo gh (F.set i true) a' w' → K' a' w') :
    (Region.wanted ops[i] (yielded ops a.tmps) = true ∧ (ops[i]).wp P a w K' Q) ∨ (Region.wanted ops[i] (yielded ops a.tmps) = false ∧ K' (a.put (ops[i]).dst undef) w) := by
  have hlenk : (ops.toList.take k).length = k := by simp [A.le]
  have hrl : rs.length = k := by rw [hrun.len, hlenk]
  have ho : ops[i]? = some ops[i] := Array.getElem?_eq_getElem h2
  have hoT : (ops.toList.take k)[i]? = some ops[i] := by
    rw [List.getElem?_take_of_lt hik, Array.getElem?_toList, ho]
  have hoT' : ∀ (j : Nat) (o : Oper), (ops.toList.take k)[j]? = some o → j < k ∧ ops[j]? = some o := by
    intro j o hj
    have hjk : j < k := by have := (List.getElem?_eq_some_iff.1 hj).1; omega
    rw [List.getElem?_take_of_lt hjk, Array.getElem?_toList] at hj
    exact ⟨hjk, hj⟩
  obtain ⟨r0, hr0, hcase⟩ := hrun.at_ hoT
  have hslot : ∀ s, s ∈ (ops[i]).looksAt ops → (runT (ops.toList.take k) rs (pre i (ops.toList.take k).length) st.t).getD s .junk = (runT (ops.toList.take k) rs F st.t).getD s .junk := by
    intro s hs
    refine runT_agree s _ _ _ _ _ _ (by rw [hlenk, hF]; simp [pre]; omega) rfl (fun j o' hj hd => ?_) rfl
    obtain ⟨hjk, hoj⟩ := hoT' j o' hj
    rw [hlenk]
    have hpre : (pre i k)[j]? = some (decide (j < i)) := by
      unfold pre
      by_cases hji : j < i
      · rw [List.getElem?_append_left (by simpa using hji), List.getElem?_replicate, if_pos hji]; simp [hji]
      · rw [List.getElem?_append_right (by simp; omega), List.getElem?_replicate, if_pos (by simp; omega)]; simp [hji]
    rw [hpre]
    by_cases e : j = i
    · subst e
      rw [hiF]; simp
    · rcases A.slot i j ops[i] o' s hik hjk (fun q => e q.symm) ho hoj hs hd with hw | hw
      · rw [h3' j hw]
        have := A.early i h2 j hw
        simp [this]
      · have hlt := A.early j (by have := A.le; omega) i hw
        have hjF : F[j]? = some false := by
          have hjl : j < F.length := by omega
          cases hb : F[j] with
          | false => rw [List.getElem?_eq_getElem hjl, hb]
          | true =>
            exfalso
            have := hc j (by rw [List.getElem?_eq_getElem hjl, hb]) i hw
            rw [hiF] at this
            cases this
        rw [hjF]
        have : ¬ j < i := by omega
        simp [this]
  obtain ⟨β, M, g1, g2, g3, g4, g5⟩ := r
  have hgd : ∀ d, RV (cx w Zo (st.m ++ flatM rs F) β) ((runT (ops.toList.take k) rs F st.t).getD d .junk) (a.tmps.getD d undef) := by
    intro d
    have h1 := g4.getD d undef
    have h2 : a.tmps.toList.getD d undef = a.tmps.getD d undef := by simp
    rwa [h2] at h1
  have hwant : ∀ b, wantT (dsts ops) ops[i] (runT (ops.toList.take k) rs (pre i (ops.toList.take k).length) st.t) = some b → Region.wanted ops[i] (yielded ops a.tmps) = b := by
    intro b hb
    refine wantT_sound (x := .junk) hb (fun j want d hg hd => ?_) (c := cx w Zo (st.m ++ flatM rs F) β)
    have hs : d ∈ (ops[i]).looksAt ops := by
      unfold Oper.looksAt
      rw [hg]
      simp [hd]
    rw [hslot d hs]
    exact hgd d
  have honce : ∀ (j : Nat) (o' : Oper), (ops.toList.take k)[j]? = some o' → j ≠ i → ∀ s, (ops[i]).dst = some s → o'.dst ≠ some s := by
    intro j o' hj hne s hs
    obtain ⟨hjk, hoj⟩ := hoT' j o' hj
    exact A.once i j _ _ s hik hjk (fun q => hne q.symm) ho hoj hs
  have hT := runT_list _ rs F st.t i ops[i] r0 hoT hr0 hiF honce
  have hM := flatM_at (by rw [hF, hrl]) hr0 hiF
  have hM' := flatM_at (F := F.set i true) (b := true) (by simp [hF, hrl]) hr0 (by rw [List.getElem?_set_self (by omega)])
  simp only [Bool.false_eq_true, if_false] at hM
  simp only [if_true] at hM'
  have ht1 : (F.set i true).take i = F.take i := by rw [List.take_set_of_le (Nat.le_refl _)]
  have ht2 : (F.set i true).drop (i + 1) = F.drop (i + 1) := by rw [List.drop_set_of_lt (by omega)]
  rw [ht1, ht2] at hM'
  rcases hcase with ⟨v, new, rfl, hw, hqs⟩ | ⟨rfl, hw⟩
  · refine .inl ⟨hwant _ hw, ?_⟩
    have hbase : (memAt rs st.m i).length = (st.m ++ flatM (rs.take i) (F.take i)).length := memAt_length (by rw [hF, hrl]) (by omega)
    have hmm : st.m ++ flatM rs F = (st.m ++ flatM (rs.take i) (F.take i)) ++ List.replicate new.length .hole ++ flatM (rs.drop (i + 1)) (F.drop (i + 1)) := by
      rw [hM]; simp [newOf]
    have hmm' : st.m ++ flatM rs (F.set i true) = (st.m ++ flatM (rs.take i) (F.take i)) ++ new ++ flatM (rs.drop (i + 1)) (F.drop (i + 1)) := by
      rw [hM']; simp [newOf]
    have hfill : fills (st.m ++ flatM rs F) (memAt rs st.m i).length new = st.m ++ flatM rs (F.set i true) := by
      rw [hmm, hmm', hbase]
      exact fills_mid _ _ _
    refine Oper.wp_mono ?_ (hqs w Zo _ β a Q M (memAt_agree (by rw [hF, hrl]) (by omega)) (fun x hx => ?_) (fun j hj => ?_))
    · rintro a' w' ⟨u, β', rfl, hG, M', hle, hv, hlv⟩
      rw [hfill] at M' hle hv hlv
      refine hnext _ w' ?_
      unfold Part
      rw [hT]
      refine ⟨β', M', ?_, g2.trans (hG.mono (fun _ q => q.elim)), by cases (ops[i]).dst <;> exact g3, (g4.mono hle).put hv (ops[i]).dst, g5.mono hle⟩
      intro b hb
      rcases hlv b hb with hb | hb
      · exact g1 b hb
      · exact .inr (Nat.le_trans g2.size hb)
    · cases x with
      | tmp s =>
        have hs : s ∈ (ops[i]).looksAt ops := by
          unfold Oper.looksAt
          refine List.mem_append_left _ (List.mem_filterMap.2 ⟨.tmp s, by simpa using hx, rfl⟩)
        show RV _ ((runT (ops.toList.take k) rs (pre i (ops.toList.take k).length) st.t).getD s .junk) _
        rw [hslot s hs]
        exact hgd s
      | const c => exact ev_RV (t := []) (c := cx w Zo (st.m ++ flatM rs F) β) (a := { tmps := #[], defers := [] }) rfl (.const c)
      | global g => trivial
      | func f => exact ⟨#[], #[], rfl, rfl, rfl⟩
    · rw [hbase, hmm, List.append_assoc, List.getElem?_append_right (by omega), List.getElem?_append_left (by simp; omega), List.getElem?_replicate, if_pos (by omega)]
  · refine .inr ⟨hwant _ hw, hnext _ w ?_⟩
    unfold Part
    rw [hT]
    have hmm : st.m ++ flatM rs (F.set i true) = st.m ++ flatM rs F := by rw [hM, hM']; simp [newOf]
    rw [hmm]
    exact ⟨β, M, g1, g2, by cases (ops[i]).dst <;> exact g3, g4.put (x := .tup []) RV_udf (ops[i]).dst, g5⟩
theorem head_sound {k : Nat} {st st' : St} {rs : List Res} {fl : List Nat} (A : Any ops fl k) (hQ : ∀ st a w, K st → Rel w0 E Zo gh st a w → Q .normal a w)
    (hrun : Run P (dsts ops) (ops.toList.take k) st rs st') (htail : RS P (dsts ops) (ops.toList.drop k) st' K) :
    ∀ (fuel : Nat) (F : List Bool) (a : Act) (w : World), F.length = k → left F + (ops.size - k) ≤ fuel → (∀ i, F[i]? = some true → ∀ j ∈ waits ops i, F[j]? = some true) → (∀ f ∈ fl, F[f]? = some true) →
      Part ops k st rs w0 E Zo gh F a w → wpAny P .any ops Q fuel (lay0 ops.size F) a w := by
  have hlenk : (ops.toList.take k).length = k := by simp [A.le]
  have hrl : rs.length = k := by rw [hrun.len, hlenk]
  intro fuel
  induction fuel with
  | zero =>
    intro F a w hF hl hc hfl r
    have h0 : left F = 0 := by omega
    have hall := left_zero h0
    rw [hF] at hall
    subst hall
    rw [lay0_all A.le]
    refine tail_sound A hQ 0 k st' a w (Nat.le_refl _) A.le (by omega) htail ?_
    rw [hrun.fin, hlenk]
    exact r
  | succ fuel ih =>
    intro F a w hF hl hc hfl r
    by_cases h0 : left F = 0
    · have hall := left_zero h0
      rw [hF] at hall
      subst hall
      rw [lay0_all A.le]
      refine tail_sound A hQ (fuel + 1) k st' a w (Nat.le_refl _) A.le (by omega) htail ?_
      rw [hrun.fin, hlenk]
      exact r
    · refine ⟨fun hr => ?_, fun i hi => ?_⟩
      · exfalso
        refine h0 ?_
        have hsz : (lay0 ops.size F).size = ops.size := by have := A.le; simp [lay0]; omega
        have := ready_some hsz A.early hr
        have hF' : F = List.replicate F.length true := all_true fun j hj => by rw [← lay0_get hj]; exact this j (by have := A.le; omega)
        rw [hF']
        exact left_rep _
      · obtain ⟨h1, h2, h3⟩ := ready_waits hi
        have hik : i < k := by
          by_cases hik : i < k
          · exact hik
          · exfalso
            refine h0 ?_
            have hw3 : ∀ l ∈ waits ops i, F[l]? = some true := by
              intro l hl2
              have := h3 l hl2
              by_cases hlk : l < F.length
              · rw [Array.getD_eq_getD_getElem?, lay0_get hlk] at this
                cases hb : F[l]? with
                | none => rw [hb] at this; cases this
                | some b => rw [hb] at this; simpa using this
              · exfalso
                rw [Array.getD_eq_getD_getElem?] at this
                unfold lay0 at this
                rw [List.getElem?_toArray, List.getElem?_append_right (by omega), List.getElem?_replicate] at this
                split at this <;> simp at this
            have hanc0 : ∀ {a b : Nat}, Anc ops a b → (∀ l ∈ waits ops a, F[l]? = some true) → F[b]? = some true := by
              intro a b h
              induction h with
              | one h => exact fun hw => hw _ h
              | more h _ ih => exact fun hw => ih (hc _ (hw _ h))
            have hF' : F = List.replicate F.length true := all_true fun j hj => by
              by_cases hjf : j ∈ fl
              · exact hfl j hjf
              · exact hanc0 (A.tail i (by omega) h2 j (by omega) hjf) hw3
            rw [hF']
            exact left_rep _
        have hiF : F[i]? = some false := by
          rw [Array.getD_eq_getD_getElem?, lay0_get (by omega)] at h1
          have hlt : i < F.length := by omega
          rw [List.getElem?_eq_getElem hlt] at h1 ⊢
          simpa using h1
        have h3' : ∀ j ∈ waits ops i, F[j]? = some true := by
          intro j hj
          have hj2 := A.early i h2 j hj
          have := h3 j hj
          rw [Array.getD_eq_getD_getElem?, lay0_get (by omega)] at this
          cases hb : F[j]? with
          | none => rw [hb] at this; cases this
          | some b => rw [hb] at this; simpa using this
        rw [lay0_set (by omega)]
        have hnext : ∀ (a' : Act) (w' : World), Part ops k st rs w0 E Zo gh (F.set i true) a' w' → wpAny P .any ops Q fuel (lay0 ops.size (F.set i true)) a' w' := by
          intro a' w' hp
          refine ih (F.set i true) a' w' (by simpa using hF) (by have := left_set hiF; omega) ?_ (fun f hf => ?_) hp
          rotate_left
          · by_cases e : f = i
            · subst e; rw [List.getElem?_set_self (by omega)]
            · rw [List.getElem?_set_ne (fun q => e q.symm)]; exact hfl f hf
          intro j hj l hl
          by_cases e : j = i
          · subst e
            have hlj := A.early j h2 l hl
            rw [List.getElem?_set_ne (by omega)]
            exact h3' l hl
          · rw [List.getElem?_set_ne (fun q => e q.symm)] at hj
            have := hc j hj l hl
            by_cases e2 : l = i
            · subst e2
              rw [List.getElem?_set_self (by omega)]
            · rw [List.getElem?_set_ne (fun q => e2 q.symm)]
              exact this
        rcases head_step (Q := Q) A hrun hF hc r hik h2 hiF h3' hnext with ⟨hw, h⟩ | ⟨hw, h⟩
        · unfold wpOp
          rw [Array.getElem?_eq_getElem h2]
          simp only
          rw [if_pos hw]
          exact .inl h
        · unfold wpOp
          rw [Array.getElem?_eq_getElem h2]
          simp only
          rw [if_neg (by rw [hw]; decide)]
          exact h

/-- A region whose order is drawn. -/
theorem SW.drawn {st : St} {Q : Exit → St → Prop} {id : Nat} (k : Nat) (hm : P.follows .mixedOrders = true) (hk : anyB ops k = true) (h : RQ P (dsts ops) k ops.toList st (Q .normal)) : SW P (.region id ops true) st Q := by
  intro w0 E Zo gh a w r
  have A := Any.of hk
  obtain ⟨rs, st', hrun, htail⟩ := RQ_run h
  refine wp_region_any hm ?_
  have hlenk : (ops.toList.take k).length = k := by simp [A.le]
  have hrl : rs.length = k := by rw [hrun.len, hlenk]
  have h0 : Array.replicate ops.size false = lay0 ops.size (List.replicate k false) := by
    have := A.le
    unfold lay0
    rw [List.length_replicate, List.replicate_append_replicate, show k + (ops.size - k) = ops.size by omega]
    simp
  rw [h0]
  refine head_sound (K := Q .normal) (w0 := w0) (E := E) (Zo := Zo) (gh := gh) A (fun st a w hq hr => ⟨st, hq, hr⟩) hrun htail ops.size _ a _ (by simp) ?_ (fun i hi => ?_) (fun f hf => by cases hf) ?_
  · have h1 : ∀ n, left (List.replicate n false) = n := by
      intro n
      induction n with
      | zero => rfl
      | succ n ih => simp [List.replicate_succ, left, ih]; omega
    have := A.le
    rw [h1]; omega
  · rw [List.getElem?_replicate] at hi
    split at hi <;> cases hi
  · unfold Part
    rw [runT_none]
    have hf : ∀ (l : List Res), ∃ n, flatM l (List.replicate l.length false) = List.replicate n .hole := by
      intro l
      induction l with
      | nil => exact ⟨0, rfl⟩
      | cons x xs ih =>
        obtain ⟨n, hn⟩ := ih
        refine ⟨(newOf x).length + n, ?_⟩
        simp [List.replicate_succ, flatM, hn, ← List.replicate_append_replicate]
    obtain ⟨n, hn⟩ := hf rs
    rw [hrl] at hn
    rw [hn]
    obtain ⟨β, M, g1, g2, g3, g4, g5⟩ := r
    have hG : Grow w { w with drawn := w.drawn + 1 } := Grow.drew w
    obtain ⟨M1, hle⟩ := (M.grow hG).holes n
    refine ⟨_, M1, ?_, g2.trans (hG.mono (fun _ q => q.elim)), g3, g4.mono ((cx_le_grow hG).trans hle), g5.mono ((cx_le_grow hG).trans hle)⟩
    rintro b ⟨p, q, l, h1, h2, h3⟩
    rcases getElem?_append_holes h1 with h1 | ⟨_, rfl⟩
    · rw [List.getElem?_append_left (by rw [M.len]; exact (List.getElem?_eq_some_iff.1 h1).1)] at h2
      exact g1 b ⟨p, q, l, h1, h2, h3⟩
    · simp [Ob.blk] at h3
/-- Copies that wait for nothing: they may as well come first. -/
def fltB (ops : Array Oper) : List Nat → Bool
  | [] => true
  | f :: fs => !(fs.contains f) && fltB ops fs && (match ops[f]? with
    | some o => (match o.op with
      | .move _ => true
      | _ => false) && o.guard.isNone && o.after.isEmpty && ((List.range ops.size).all fun j => Nat.beq j f || (match ops[j]? with
        | some oj => (oj.after.toList.any fun e => Region.binds .any e && Nat.beq e.on f) || o.apart ops oj
        | none => true))
    | none => false)
def noSel (ops : Array Oper) : Bool := ops.toList.all fun o => match o.op with
  | .select _ _ => false
  | _ => true
theorem noSel_out {ops : Array Oper} (h : noSel ops = true) {j : Nat} {o : Oper} (ho : ops[j]? = some o) (cs : Array SelectCase) (b : Bool) : o.op ≠ .select cs b := by
  intro e
  have := List.all_eq_true.1 h o (Array.mem_toList_iff.2 (Array.mem_of_getElem? ho))
  rw [e] at this
  cases this
theorem flt_sound {fl : List Nat} {k : Nat} {st st' : St} {rs : List Res} (A : Any ops fl k) (hQ : ∀ st a w, K st → Rel w0 E Zo gh st a w → Q .normal a w) (hns : noSel ops = true) (hP : ∀ c a w, ¬ Q (.panic c) a w)
    (hrun : Run P (dsts ops) (ops.toList.take k) st rs st') (htail : RS P (dsts ops) (ops.toList.drop k) st' K) :
    ∀ (todo : List Nat) (fuel : Nat) (F : List Bool) (a : Act) (w : World), fltB ops todo = true → (∀ f ∈ todo, f < k) → F.length = k → left F + (ops.size - k) ≤ fuel → (∀ i, F[i]? = some true → ∀ j ∈ waits ops i, F[j]? = some true) →
      (∀ f ∈ todo, F[f]? = some false) → (∀ f ∈ fl, f ∈ todo ∨ F[f]? = some true) → Part ops k st rs w0 E Zo gh F a w → wpAny P .any ops Q fuel (lay0 ops.size F) a w
  | [], fuel, F, a, w, _, _, hF, hl, hc, _, hfl, r => head_sound A hQ hrun htail fuel F a w hF hl hc (fun f hf => (hfl f hf).resolve_left (by simp)) r
  | f :: todo, fuel, F, a, w, hb, hk, hF, hl, hc, hf, hfl, r => by
    have hfF := hf f List.mem_cons_self
    have hfk := hk f List.mem_cons_self
    have hleft := left_set hfF
    obtain ⟨fuel, rfl⟩ : ∃ n, fuel = n + 1 := ⟨fuel - 1, by omega⟩
    have hsz : f < ops.size := by have := A.le; omega
    have ho : ops[f]? = some ops[f] := Array.getElem?_eq_getElem hsz
    unfold fltB at hb
    rw [ho] at hb
    simp only [Bool.and_eq_true, Bool.not_eq_true'] at hb
    obtain ⟨⟨hb1, hb2⟩, ⟨⟨hb3, hb4⟩, hb5⟩, hb6⟩ := hb
    have hfn : f ∉ todo := fun h => by have := List.contains_iff_mem.2 h; rw [hb1] at this; cases this
    obtain ⟨x, hx⟩ : ∃ x, (ops[f]).op = .move x := by
      cases hop : (ops[f]).op <;> rw [hop] at hb3 <;> first | exact ⟨_, rfl⟩ | cases hb3
    have hg : (ops[f]).guard = none := by simpa using hb4
    have hw : waits ops f = [] := by
      unfold waits
      rw [ho]
      have : (ops[f]).after = #[] := by simpa using hb5
      simp only [this]
      rfl
    have hwant : Region.wanted ops[f] (yielded ops a.tmps) = true := by unfold Region.wanted; rw [hg]
    have hrunv : ∀ w : World, (execOp a.eval ops[f]).run P w = .ok (.value (a.eval x)) w := fun w => by simp only [execOp, hx]; rfl
    refine wpAny_first (v := a.eval x) ho (fun j o cs b hj => noSel_out hns hj cs b) (fun c a w h => (hP c _ _ h).elim) fuel (lay0 ops.size F) a w (fun j oj hj hne _ hno => ?_) ?_ (.inl ⟨hwant, hrunv⟩) ?_
    · have := List.all_eq_true.1 hb6 j (List.mem_range.2 (Array.getElem?_eq_some_iff.1 hj).1)
      rw [hj] at this
      simp only [Bool.or_eq_true] at this
      rcases this with h | h | h
      · exact absurd (Nat.eq_of_beq_eq_true h) hne
      · obtain ⟨e, he, h2⟩ := List.any_eq_true.1 h
        simp only [Bool.and_eq_true] at h2
        exact absurd (Nat.eq_of_beq_eq_true h2.2) (hno e (Array.mem_toList_iff.1 he) h2.1)
      · exact h
    · refine mem_ready.2 ⟨?_, _, ho, fun e he hbe => ?_⟩
      · rw [Array.getD_eq_getD_getElem?, lay0_get (by omega), hfF]; rfl
      · have : e.on ∈ waits ops f := (waits_spec ho).2 ⟨e, he, hbe, rfl⟩
        rw [hw] at this
        cases this
    · rw [lay0_set (by omega)]
      have hpart : Part ops k st rs w0 E Zo gh (F.set f true) (a.put (ops[f]).dst (a.eval x)) w := by
        rcases head_step (Q := fun _ _ _ => False) (K' := fun a' w' => Part ops k st rs w0 E Zo gh (F.set f true) a' w') A hrun hF hc r hfk hsz hfF (fun j hj => by rw [hw] at hj; cases hj) (fun _ _ h => h) with ⟨_, h⟩ | ⟨h, _⟩
        · unfold Oper.wp at h
          rw [hrunv w] at h
          exact h
        · rw [hwant] at h; cases h
      refine flt_sound A hQ hns hP hrun htail todo fuel (F.set f true) _ w hb2 (fun g hg => hk g (List.mem_cons_of_mem _ hg)) (by simpa using hF) (by omega) ?_ (fun g hg => ?_) (fun g hg => ?_) hpart
      · intro j hj l hl
        by_cases e : j = f
        · subst e
          rw [hw] at hl; cases hl
        · rw [List.getElem?_set_ne (fun q => e q.symm)] at hj
          have := hc j hj l hl
          by_cases e2 : l = f
          · subst e2
            rw [List.getElem?_set_self (by omega)]
          · rw [List.getElem?_set_ne (fun q => e2 q.symm)]
            exact this
      · have hne : g ≠ f := fun e => hfn (e ▸ hg)
        rw [List.getElem?_set_ne (fun q => hne q.symm)]
        exact hf g (List.mem_cons_of_mem _ hg)
      · rcases hfl g hg with h | h
        · rcases List.mem_cons.1 h with rfl | h
          · exact .inr (by rw [List.getElem?_set_self (by omega)])
          · exact .inl h
        · by_cases e : g = f
          · subst e; exact .inr (by rw [List.getElem?_set_self (by omega)])
          · exact .inr (by rw [List.getElem?_set_ne (fun q => e q.symm)]; exact h)
/-- A region whose order is drawn, where some copies may come late. -/
theorem SW.drawnF {st : St} {Q : Exit → St → Prop} {id : Nat} (fl : List Nat) (k : Nat) (hm : P.follows .mixedOrders = true) (hk : anyF ops fl k = true) (hf : fltB ops fl = true) (hns : noSel ops = true) (hP : ∀ c st, ¬ Q (.panic c) st)
    (h : RQ P (dsts ops) k ops.toList st (Q .normal)) : SW P (.region id ops true) st Q := by
  intro w0 E Zo gh a w r
  have A := Any.of hk
  obtain ⟨rs, st', hrun, htail⟩ := RQ_run h
  refine wp_region_any hm ?_
  have hlenk : (ops.toList.take k).length = k := by simp [A.le]
  have hrl : rs.length = k := by rw [hrun.len, hlenk]
  have h0 : Array.replicate ops.size false = lay0 ops.size (List.replicate k false) := by
    have := A.le
    unfold lay0
    rw [List.length_replicate, List.replicate_append_replicate, show k + (ops.size - k) = ops.size by omega]
    simp
  rw [h0]
  refine flt_sound (K := Q .normal) (w0 := w0) (E := E) (Zo := Zo) (gh := gh) A (fun st a w hq hr => ⟨st, hq, hr⟩) hns (fun c a w ⟨st, h, _⟩ => hP c st h) hrun htail fl ops.size _ a _ hf A.flt (by simp) ?_ (fun i hi => ?_) (fun f hf => ?_) (fun f hf => .inl hf) ?_
  · have h1 : ∀ n, left (List.replicate n false) = n := by
      intro n
      induction n with
      | zero => rfl
      | succ n ih => simp [List.replicate_succ, left, ih]; omega
    have := A.le
    rw [h1]; omega
  · rw [List.getElem?_replicate] at hi
    split at hi <;> cases hi
  · rw [List.getElem?_replicate, if_pos (A.flt f hf)]
  · unfold Part
    rw [runT_none]
    have hf : ∀ (l : List Res), ∃ n, flatM l (List.replicate l.length false) = List.replicate n .hole := by
      intro l
      induction l with
      | nil => exact ⟨0, rfl⟩
      | cons x xs ih =>
        obtain ⟨n, hn⟩ := ih
        refine ⟨(newOf x).length + n, ?_⟩
        simp [List.replicate_succ, flatM, hn, ← List.replicate_append_replicate]
    obtain ⟨n, hn⟩ := hf rs
    rw [hrl] at hn
    rw [hn]
    obtain ⟨β, M, g1, g2, g3, g4, g5⟩ := r
    have hG : Grow w { w with drawn := w.drawn + 1 } := Grow.drew w
    obtain ⟨M1, hle⟩ := (M.grow hG).holes n
    refine ⟨_, M1, ?_, g2.trans (hG.mono (fun _ q => q.elim)), g3, g4.mono ((cx_le_grow hG).trans hle), g5.mono ((cx_le_grow hG).trans hle)⟩
    rintro b ⟨p, q, l, h1, h2, h3⟩
    rcases getElem?_append_holes h1 with h1 | ⟨_, rfl⟩
    · rw [List.getElem?_append_left (by rw [M.len]; exact (List.getElem?_eq_some_iff.1 h1).1)] at h2
      exact g1 b ⟨p, q, l, h1, h2, h3⟩
    · simp [Ob.blk] at h3
end
end Go.Pm
