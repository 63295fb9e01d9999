/- Events by their ids, entries by kind and key, memberships and levels, by the program. Conditions: order, sizes that fit a machine. -/
import Derived.Test.YtkcllejnmpnjfaaG5
import Derived.Test.YtkcllejnmpnjfaaS7
namespace Go.Proofs.Ytkcllejnmpnjfaa
open Go.Pm
open Go.Gm (Ev Gr)
set_option maxRecDepth 10000
set_option linter.unusedSimpArgs false
set_option linter.unusedVariables false
theorem VLe.tup {xs ys : List V} (h : VLes xs ys) : VLe (.tup xs) (.tup ys) := fun c v ⟨us, e, k⟩ => ⟨us, e, h c _ k⟩
theorem Con.res {P : Program} {f : FuncId} {args : List V} {r r' : V} (h : Con P f args r) (hl : VLe r r') (hp : Ref (fun _ => False) r') : Con P f args r' := by
  refine ⟨h.ok, hp, fun w Zo us hz hu => (h.c w Zo us hz hu).mono ?_⟩
  rintro e w' ⟨v, β, he, hG, hM, hr, hl'⟩
  exact ⟨v, β, he, hG, hM, hl _ _ hr, hl'⟩
def zE : Ev := ⟨0, 0, 0, 0, 0, 0, ByteArray.empty, [], 0⟩
theorem zEv_le : VLes zEv (encEv zE) := .same (.same (.same (.same (.same (.same (.same (.cons (.nil 1) (.same .nil))))))))
def atE (l : List Ev) (id : Int) : Option Ev := l.find? fun e => e.id == id
theorem atE_has (l : List Ev) (id : Int) : (atE l id).isSome = Gm.hasId l id := by
  unfold atE Gm.hasId
  rw [Bool.eq_iff_iff, List.find?_isSome, List.any_eq_true]
theorem atE_none {l : List Ev} {id : Int} (h : Gm.hasId l id = false) : atE l id = none := by
  have := atE_has l id
  rw [h] at this
  cases hh : atE l id with
  | none => rfl
  | some x => rw [hh] at this; cases this
theorem fid_at : ∀ {l : List Ev} {id : Int}, Gm.hasId l id = true → l[Gm.fidE l id]? = atE l id
  | [], id, h => by simp [Gm.hasId] at h
  | e :: l, id, h => by
    unfold Gm.fidE atE
    rw [List.findIdx_cons, List.find?_cons]
    cases he : e.id == id with
    | true => rfl
    | false =>
      have h2 : Gm.hasId l id = true := by simpa [Gm.hasId, he] using h
      simpa [Gm.fidE, atE] using fid_at h2
theorem at_pos {l : List Ev} (hs : Gm.Srt l) {id : Int} (h : Gm.hasId l id = true) : ∃ e, l[Gm.posE l id]? = some e ∧ atE l id = some e ∧ e.id = id ∧ e ∈ l := by
  have h1 := fid_at h
  obtain ⟨e, h2, h3⟩ := Gm.fid_get h
  rw [Gm.fid_pos hs h] at h1 h2
  exact ⟨e, h2, by rw [← h1]; exact h2, h3, List.mem_of_getElem? h2⟩
def isK (kind key : Int) (x : Ent) : Bool := (x.kind == kind) && (x.key == key)
/-- The id of a kind and key, 0 without any. -/
def idS (s : List Ent) (kind key : Int) : Int := match s.find? (isK kind key) with
  | some x => x.id
  | none => 0
theorem bs_id {s : List Ent} (hs : s.Pairwise ltE) (kind key : Int) : (isAt s ⟨kind, key, 0⟩ (bsI s ⟨kind, key, 0⟩ 0 s.length) = true → ∃ y, s[bsI s ⟨kind, key, 0⟩ 0 s.length]? = some y ∧ idS s kind key = y.id) ∧
    (isAt s ⟨kind, key, 0⟩ (bsI s ⟨kind, key, 0⟩ 0 s.length) = false → idS s kind key = 0) := by
  obtain ⟨a, b, c, h1, h2, h3, h4, h5⟩ := put_parts s ⟨kind, key, 0⟩ hs
  have na : ∀ y ∈ a, isK kind key y = false := fun y hy => by
    have := h3 y hy
    unfold ltE at this
    simp only [isK, Bool.and_eq_false_iff, beq_eq_false_iff_ne]
    simp only at this
    omega
  have nc : ∀ y ∈ c, isK kind key y = false := fun y hy => by
    have := h4 y hy
    unfold ltE at this
    simp only [isK, Bool.and_eq_false_iff, beq_eq_false_iff_ne]
    simp only at this
    omega
  have fa : a.find? (isK kind key) = none := List.find?_eq_none.2 fun y hy => by simp [na y hy]
  have fc : c.find? (isK kind key) = none := List.find?_eq_none.2 fun y hy => by simp [nc y hy]
  rcases h5 with ⟨h5, y, rfl, hy1, hy2⟩ | ⟨h5, rfl⟩
  · refine ⟨fun _ => ⟨y, ?_, ?_⟩, fun h => by rw [h5] at h; cases h⟩
    · rw [← h2, h1, List.append_assoc, List.getElem?_append_right (Nat.le_refl _)]
      simp
    · have hk : isK kind key y = true := by simp only at hy1 hy2; simp [isK, hy1, hy2]
      unfold idS
      rw [h1, List.find?_append, List.find?_append, fa]
      simp [hk]
  · refine ⟨fun h => (by rw [h5] at h; cases h), fun _ => ?_⟩
    unfold idS
    rw [h1, List.append_nil, List.find?_append, fa, fc]
    rfl
def curE (g : Gr) (s : List Ent) (kind key : Int) : Option Ev := atE g.events (idS s kind key)
def memberE (g : Gr) (s : List Ent) (u : Int) : Int := ((curE g s 2 u).getD zE).n
def levelE (g : Gr) (s : List Ent) (u : Int) : Int := if (curE g s 3 u).isSome then ((curE g s 3 u).getD zE).n else if ((curE g s 1 0).isSome && (((curE g s 1 0).getD zE).author == u)) then 100 else 0
/-- What is asked of a graph and a state. -/
structure GS (g : Gr) (s : List Ent) : Prop where
  hx : g.events.length * 96 ≤ 2 ^ 47
  hs : Gm.Srt g.events
  sx : s.length * 24 ≤ 2 ^ 47
  ss : s.Pairwise ltE
section
variable {P : Program} [Is P]
theorem c_at (g : Gr) (id : Int) (hx : g.events.length * 96 ≤ 2 ^ 47) (hs : Gm.Srt g.events) : Con P 135 [.agg (encGr g), .int .i64 id] (.tup [.agg (encEv ((atE g.events id).getD zE)), .bool (atE g.events id).isSome]) := by
  rw [atE_has]
  cases hh : Gm.hasId g.events id with
  | true =>
    obtain ⟨e, h1, h2, _, _⟩ := at_pos hs hh
    have hp : Gm.posE g.events id < g.events.length := (List.getElem?_eq_some_iff.1 h1).1
    rw [h2]
    refine Con.of (n := 23) (rs := [.cell 4 67, .tmp 5]) (Is.fn Try.func135) rfl (Is.call Try.call135) Try.results135 Try.ntmps135 (by simp only [method_specs_simp]) ?_
    simp (maxSteps := 4000000) only [method_specs_simp, seval, encGr]
    refine clY.con (c_find g.events id hx hs) (by simp only [method_specs_simp, encGr]) ?_
    simp (maxSteps := 4000000) only [method_specs_simp, seval, encGr, hh]
    refine ⟨by omega, by omega, ?_⟩
    simp (maxSteps := 4000000) only [h1, encEv, encGr, method_specs_simp, seval]
    rfl
  | false =>
    rw [atE_none hh]
    refine Con.res (r := .tup [.agg zEv, .bool false]) ?_ (VLe.tup (.cons (.agg zEv_le) (.same .nil))) ⟨encEv_ref1 _ _, trivial, trivial⟩
    refine Con.of (n := 23) (rs := [.cell 4 67, .tmp 5]) (Is.fn Try.func135) rfl (Is.call Try.call135) Try.results135 Try.ntmps135 (by simp only [zEv, method_specs_simp]) ?_
    simp (maxSteps := 4000000) only [method_specs_simp, seval, encGr]
    refine clY.con (c_find g.events id hx hs) (by simp only [method_specs_simp, encGr]) ?_
    simp (maxSteps := 4000000) only [method_specs_simp, seval, encGr, hh]
    rfl
theorem c_idAt (s : List Ent) (kind key : Int) (hx : s.length * 24 ≤ 2 ^ 47) (hs : s.Pairwise ltE) : Con P 170 [.sl 3 (s.map encEnt), .int .i64 kind, .int .i64 key] (.int .i64 (idS s kind key)) := by
  obtain ⟨h1, h2⟩ := bs_id hs kind key
  have h3 := bsI_le s ⟨kind, key, 0⟩
  refine Con.of (n := 24) (rs := [.tmp 6]) (Is.fn Try.func170) rfl (Is.call Try.call170) Try.results170 Try.ntmps170 trivial ?_
  simp (maxSteps := 4000000) only [method_specs_simp, seval]
  refine clY.con (c156 s ⟨kind, key, 0⟩ (by omega)) (by simp only [method_specs_simp]) ?_
  simp (maxSteps := 4000000) only [method_specs_simp, seval]
  cases hb : isAt s ⟨kind, key, 0⟩ (bsI s ⟨kind, key, 0⟩ 0 s.length)
  · simp (maxSteps := 4000000) only [method_specs_simp, seval]
    rw [h2 hb]
  · obtain ⟨y, hy1, hy2⟩ := h1 hb
    have := (List.getElem?_eq_some_iff.1 hy1).1
    simp (maxSteps := 4000000) only [method_specs_simp, seval, hy1]
    refine ⟨by omega, by omega, ?_⟩
    simp (maxSteps := 4000000) only [hy1, encEnt, method_specs_simp, seval]
    rw [hy2]
def den (b : Bool) : Int := if b then 11 else 0
def selfE (g : Gr) (s : List Ent) (e : Ev) (m : Int) : Int :=
  if (e.n == 1) = true then den ((m == 3) || (!((m == 1) || (m == 4)) && (!(((curE g s 5 0).getD zE).n == 1) && !(((curE g s 1 0).getD zE).author == e.author)))) else if (e.n == 2) = true then den (!((m == 1) || (m == 4))) else 11
def weakE (p q : Int) : Bool := decide (p < 50) || decide (p ≤ q)
def otherE (g : Gr) (s : List Ent) (e : Ev) (p : Int) : Int :=
  if (e.n == 4) = true then den ((memberE g s e.key == 1) || (memberE g s e.key == 3))
  else if (e.n == 2) = true then den ((weakE p (levelE g s e.key) || (memberE g s e.key == 0)) || (memberE g s e.key == 2))
  else if (e.n == 3) = true then den (weakE p (levelE g s e.key) || (memberE g s e.key == 3))
  else 11
def powerE (g : Gr) (s : List Ent) (e : Ev) (p : Int) : Bool := (decide (p < 50) || decide (e.n > p)) || (!(e.key == e.author) && decide (levelE g s e.key ≥ p))
def allowedE (g : Gr) (s : List Ent) (e : Ev) : Int :=
  if (e.kind == 1) = true then (if (curE g s 1 0).isSome = true then 7 else 0)
  else if (curE g s 1 0).isSome = false then 10
  else if ((e.kind == 2) && (e.key == e.author)) = true then selfE g s e (memberE g s e.author)
  else if (memberE g s e.author == 1) = false then 11
  else if (e.kind == 2) = true then otherE g s e (levelE g s e.author)
  else if (e.kind == 3) = true then den (powerE g s e (levelE g s e.author))
  else if ((e.kind == 4) || ((e.kind == 5) || (e.kind == 6))) = true then den (decide (levelE g s e.author < 50))
  else if (e.kind == 8) = true then (if (atE g.events e.key).isSome = true then den (decide (levelE g s e.author < 50) && !(((atE g.events e.key).getD zE).author == e.author)) else 6)
  else 0
theorem bne_not (a b : Int) : (a != b) = !(a == b) := rfl
end
end Go.Proofs.Ytkcllejnmpnjfaa
