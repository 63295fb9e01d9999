/- Events by their ids, entries by kind and key, memberships and levels, by the program. Conditions: order, sizes that fit a machine. -/
import Derived.Test.YtijkkaoeijigkaaG5
import Derived.Test.YtijkkaoeijigkaaS7
namespace Go.Proofs.Ytijkkaoeijigkaa
open Go.Pm
open Go.Gm (Ev Gr)
set_option maxRecDepth 10000
set_option linter.unusedSimpArgs false
set_option linter.unusedVariables false
theorem VLe.tup {xs ys : List V} (h : VLes xs ys) : VLe (.tup xs) (.tup ys) := fun c v ⟨us, e, k⟩ => ⟨us, e, h c _ k⟩
theorem Con.res {P : Program} {f : FuncId} {args : List V} {r r' : V} (h : Con P f args r) (hl : VLe r r') (hp : Ref (fun _ => False) r') : Con P f args r' := by
  refine ⟨h.ok, hp, fun w Zo us hz hu => (h.c w Zo us hz hu).mono ?_⟩
  rintro e w' ⟨v, β, he, hG, hM, hr, hl'⟩
  exact ⟨v, β, he, hG, hM, hl _ _ hr, hl'⟩
def zE : Ev := ⟨0, 0, 0, 0, 0, 0, ByteArray.empty, [], 0⟩
theorem zEv_le : VLes zEv (encEv zE) := .same (.same (.same (.same (.same (.same (.same (.cons (.nil 1) (.same .nil))))))))
def atE (l : List Ev) (id : Int) : Option Ev := l.find? fun e => e.id == id
theorem atE_has (l : List Ev) (id : Int) : (atE l id).isSome = Gm.hasId l id := by
  unfold atE Gm.hasId
  rw [Bool.eq_iff_iff, List.find?_isSome, List.any_eq_true]
theorem atE_none {l : List Ev} {id : Int} (h : Gm.hasId l id = false) : atE l id = none := by
  have := atE_has l id
  rw [h] at this
  cases hh : atE l id with
  | none => rfl
  | some x => rw [hh] at this; cases this
theorem fid_at : ∀ {l : List Ev} {id : Int}, Gm.hasId l id = true → l[Gm.fidE l id]? = atE l id
  | [], id, h => by simp [Gm.hasId] at h
  | e :: l, id, h => by
    unfold Gm.fidE atE
    rw [List.findIdx_cons, List.find?_cons]
    cases he : e.id == id with
    | true => rfl
    | false =>
      have h2 : Gm.hasId l id = true := by simpa [Gm.hasId, he] using h
      simpa [Gm.fidE, atE] using fid_at h2
theorem at_pos {l : List Ev} (hs : Gm.Srt l) {id : Int} (h : Gm.hasId l id = true) : ∃ e, l[Gm.posE l id]? = some e ∧ atE l id = some e ∧ e.id = id ∧ e ∈ l := by
  have h1 := fid_at h
  obtain ⟨e, h2, h3⟩ := Gm.fid_get h
  rw [Gm.fid_pos hs h] at h1 h2
  exact ⟨e, h2, by rw [← h1]; exact h2, h3, List.mem_of_getElem? h2⟩
def isK (kind key : Int) (x : Ent) : Bool := (x.kind == kind) && (x.key == key)
/-- The id of a kind and key, 0 without any. -/
def idS (s : List Ent) (kind key : Int) : Int := match s.find? (isK kind key) with
  | some x => x.id
  | none => 0
theorem bs_id {s : List Ent} (hs : s.Pairwise ltE) (kind key : Int) : (isAt s ⟨kind, key, 0⟩ (bsI s ⟨kind, key, 0⟩ 0 s.length) = true → ∃ y, s[bsI s ⟨kind, key, 0⟩ 0 s.length]? = some y ∧ idS s kind key = y.id) ∧
    (isAt s ⟨kind, key, 0⟩ (bsI s ⟨kind, key, 0⟩ 0 s.length) = false → idS s kind key = 0) := by
  obtain ⟨a, b, c, h1, h2, h3, h4, h5⟩ := put_parts s ⟨kind, key, 0⟩ hs
  have na : ∀ y ∈ a, isK kind key y = false := fun y hy => by
    have := h3 y hy
    unfold ltE at this
    simp only [isK, Bool.and_eq_false_iff, beq_eq_false_iff_ne]
    simp only at this
    omega
  have nc : ∀ y ∈ c, isK kind key y = false := fun y hy => by
    have := h4 y hy
    unfold ltE at this
    simp only [isK, Bool.and_eq_false_iff, beq_eq_false_iff_ne]
    simp only at this
    omega
  have fa : a.find? (isK kind key) = none := List.find?_eq_none.2 fun y hy => by simp [na y hy]
  have fc : c.find? (isK kind key) = none := List.find?_eq_none.2 fun y hy => by simp [nc y hy]
  rcases h5 with ⟨h5, y, rfl, hy1, hy2⟩ | ⟨h5, rfl⟩
  · refine ⟨fun _ => ⟨y, ?_, ?_⟩, fun h => by rw [h5] at h; cases h⟩
    · rw [← h2, h1, List.append_assoc, List.getElem?_append_right (Nat.le_refl _)]
      simp
    · have hk : isK kind key y = true := by simp only at hy1 hy2; simp [isK, hy1, hy2]
      unfold idS
      rw [h1, List.find?_append, List.find?_append, fa]
      simp [hk]
  · refine ⟨fun h => (by rw [h5] at h; cases h), fun _ => ?_⟩
    unfold idS
    rw [h1, List.append_nil, List.find?_append, fa, fc]
    rfl
def curE (g : Gr) (s : List Ent) (kind key : Int) : Option Ev := atE g.events (idS s kind key)
def memberE (g : Gr) (s : List Ent) (u : Int) : Int := ((curE g s 2 u).getD zE).n
def levelE (g : Gr) (s : List Ent) (u : Int) : Int := if (curE g s 3 u).isSome then ((curE g s 3 u).getD zE).n else if ((curE g s 1 0).isSome && (((curE g s 1 0).getD zE).author == u)) then 100 else 0
/-- What is asked of a graph and a state. -/
structure GS (g : Gr) (s : List Ent) : Prop where
  hx : g.events.length * 96 ≤ 2 ^ 47
  hs : Gm.Srt g.events
  sx : s.length * 24 ≤ 2 ^ 47
  ss : s.Pairwise ltE
section
variable {P : Program} [Is P]
theorem c_at (g : Gr) (id : Int) (hx : g.events.length * 96 ≤ 2 ^ 47) (hs : Gm.Srt g.events) : Con P 105 [.agg (encGr g), .int .i64 id] (.tup [.agg (encEv ((atE g.events id).getD zE)), .bool (atE g.events id).isSome]) := by
  rw [atE_has]
  cases hh : Gm.hasId g.events id with
  | true =>
    obtain ⟨e, h1, h2, _, _⟩ := at_pos hs hh
    have hp : Gm.posE g.events id < g.events.length := (List.getElem?_eq_some_iff.1 h1).1
    rw [h2]
    refine Con.of (n := 23) (rs := [.cell 4 28, .tmp 5]) (Is.fn Try.func105) rfl (Is.call Try.call105) Try.results105 Try.ntmps105 (by simp only [method_specs_simp]) ?_
    simp (maxSteps := 4000000) only [method_specs_simp, seval, encGr]
    refine clY.con (c_find g.events id hx hs) (by simp only [method_specs_simp, encGr]) ?_
    simp (maxSteps := 4000000) only [method_specs_simp, seval, encGr, hh]
    refine ⟨by omega, by omega, ?_⟩
    simp (maxSteps := 4000000) only [h1, encEv, encGr, method_specs_simp, seval]
    rfl
  | false =>
    rw [atE_none hh]
    refine Con.res (r := .tup [.agg zEv, .bool false]) ?_ (VLe.tup (.cons (.agg zEv_le) (.same .nil))) ⟨encEv_ref1 _ _, trivial, trivial⟩
    refine Con.of (n := 23) (rs := [.cell 4 28, .tmp 5]) (Is.fn Try.func105) rfl (Is.call Try.call105) Try.results105 Try.ntmps105 (by simp only [zEv, method_specs_simp]) ?_
    simp (maxSteps := 4000000) only [method_specs_simp, seval, encGr]
    refine clY.con (c_find g.events id hx hs) (by simp only [method_specs_simp, encGr]) ?_
    simp (maxSteps := 4000000) only [method_specs_simp, seval, encGr, hh]
    rfl
theorem c_idAt (s : List Ent) (kind key : Int) (hx : s.length * 24 ≤ 2 ^ 47) (hs : s.Pairwise ltE) : Con P 149 [.sl 3 (s.map encEnt), .int .i64 kind, .int .i64 key] (.int .i64 (idS s kind key)) := by
  obtain ⟨h1, h2⟩ := bs_id hs kind key
  have h3 := bsI_le s ⟨kind, key, 0⟩
  refine Con.of (n := 24) (rs := [.tmp 6]) (Is.fn Try.func149) rfl (Is.call Try.call149) Try.results149 Try.ntmps149 trivial ?_
  simp (maxSteps := 4000000) only [method_specs_simp, seval]
  refine clY.con (c156 s ⟨kind, key, 0⟩ (by omega)) (by simp only [method_specs_simp]) ?_
  simp (maxSteps := 4000000) only [method_specs_simp, seval]
  cases hb : isAt s ⟨kind, key, 0⟩ (bsI s ⟨kind, key, 0⟩ 0 s.length)
  · simp (maxSteps := 4000000) only [method_specs_simp, seval]
    rw [h2 hb]
  · obtain ⟨y, hy1, hy2⟩ := h1 hb
    have := (List.getElem?_eq_some_iff.1 hy1).1
    simp (maxSteps := 4000000) only [method_specs_simp, seval, hy1]
    refine ⟨by omega, by omega, ?_⟩
    simp (maxSteps := 4000000) only [hy1, encEnt, method_specs_simp, seval]
    rw [hy2]
theorem c_current (g : Gr) (s : List Ent) (kind key : Int) (h : GS g s) : Con P 215 [.agg (encGr g), .sl 3 (s.map encEnt), .int .i64 kind, .int .i64 key] (.tup [.agg (encEv ((curE g s kind key).getD zE)), .bool (curE g s kind key).isSome]) := by
  have h1 : List.take 3 (encGr g) = encGr g := rfl
  refine Con.of (n := 18) (rs := [.cell 8 28, .tmp 9]) (Is.fn Try.func215) rfl (Is.call Try.call215) Try.results215 Try.ntmps215 (by simp only [method_specs_simp]) ?_
  simp (maxSteps := 4000000) only [method_specs_simp, seval]
  refine ⟨by kernel_rfl, by simp [encGr], ?_⟩
  refine clY.con (c_idAt s kind key h.sx h.ss) (by simp only [method_specs_simp]) ?_
  simp (maxSteps := 4000000) only [method_specs_simp, seval]
  rw [h1]
  refine clY.con (c_at g (idS s kind key) h.hx h.hs) (by simp only [method_specs_simp]) ?_
  simp (maxSteps := 4000000) only [method_specs_simp, seval, encEv]
  rfl
theorem c_member (g : Gr) (s : List Ent) (u : Int) (h : GS g s) : Con P 216 [.agg (encGr g), .sl 3 (s.map encEnt), .int .i64 u] (.int .i64 (memberE g s u)) := by
  have h1 : List.take 3 (encGr g) = encGr g := rfl
  refine Con.of (n := 18) (rs := [.tmp 6]) (Is.fn Try.func216) rfl (Is.call Try.call216) Try.results216 Try.ntmps216 trivial ?_
  simp (maxSteps := 4000000) only [method_specs_simp, seval]
  refine ⟨by simp [encGr], ?_⟩
  rw [h1]
  refine clY.con (c_current g s 2 u h) (by simp only [method_specs_simp]) ?_
  simp (maxSteps := 4000000) only [method_specs_simp, seval, encEv]
  rfl
theorem c_level (g : Gr) (s : List Ent) (u : Int) (h : GS g s) : Con P 217 [.agg (encGr g), .sl 3 (s.map encEnt), .int .i64 u] (.int .i64 (levelE g s u)) := by
  have h1 : List.take 3 (encGr g) = encGr g := rfl
  refine Con.of (n := 34) (rs := [.tmp 6]) (Is.fn Try.func217) rfl (Is.call Try.call217) Try.results217 Try.ntmps217 trivial ?_
  simp (maxSteps := 4000000) only [method_specs_simp, seval]
  refine ⟨by simp [encGr], ?_⟩
  rw [h1]
  refine clY.con (c_current g s 3 u h) (by simp only [method_specs_simp]) ?_
  simp (maxSteps := 4000000) only [method_specs_simp, seval, encEv]
  unfold levelE
  cases g1 : (curE g s 3 u).isSome
  · simp (maxSteps := 4000000) only [method_specs_simp, seval]
    refine ⟨by simp [encGr], ?_⟩
    rw [h1]
    refine clY.con (c_current g s 1 0 h) (by simp only [method_specs_simp]) ?_
    simp (maxSteps := 4000000) only [method_specs_simp, seval, encEv]
    cases g2 : (curE g s 1 0).isSome
    · simp (maxSteps := 4000000) only [method_specs_simp, seval]
      simp
    · simp (maxSteps := 4000000) only [method_specs_simp, seval]
      exact gB_split (fun h => by rw [if_pos (by simpa using h)]) (fun h => by rw [if_neg (by simpa using h)])
  · simp (maxSteps := 4000000) only [method_specs_simp, seval]
def den (b : Bool) : Int := if b then 11 else 0
theorem c_deniedIf (b : Bool) : Con P 220 [.bool b] (.int .i64 (den b)) := by
  refine Con.of (n := 4) (rs := [.tmp 2]) (Is.fn Try.func220) rfl (Is.call Try.call220) Try.results220 Try.ntmps220 trivial ?_
  simp (maxSteps := 4000000) only [method_specs_simp, seval]
  cases b
  · simp (maxSteps := 4000000) only [method_specs_simp, seval]
    rfl
  · simp (maxSteps := 4000000) only [method_specs_simp, seval]
    rfl
def selfE (g : Gr) (s : List Ent) (e : Ev) (m : Int) : Int :=
  if (e.n == 1) = true then den ((m == 3) || (!((m == 1) || (m == 4)) && (!(((curE g s 5 0).getD zE).n == 1) && !(((curE g s 1 0).getD zE).author == e.author)))) else if (e.n == 2) = true then den (!((m == 1) || (m == 4))) else 11
def weakE (p q : Int) : Bool := decide (p < 50) || decide (p ≤ q)
def otherE (g : Gr) (s : List Ent) (e : Ev) (p : Int) : Int :=
  if (e.n == 4) = true then den ((memberE g s e.key == 1) || (memberE g s e.key == 3))
  else if (e.n == 2) = true then den ((weakE p (levelE g s e.key) || (memberE g s e.key == 0)) || (memberE g s e.key == 2))
  else if (e.n == 3) = true then den (weakE p (levelE g s e.key) || (memberE g s e.key == 3))
  else 11
def powerE (g : Gr) (s : List Ent) (e : Ev) (p : Int) : Bool := (decide (p < 50) || decide (e.n > p)) || (!(e.key == e.author) && decide (levelE g s e.key ≥ p))
def allowedE (g : Gr) (s : List Ent) (e : Ev) : Int :=
  if (e.kind == 1) = true then (if (curE g s 1 0).isSome = true then 7 else 0)
  else if (curE g s 1 0).isSome = false then 10
  else if ((e.kind == 2) && (e.key == e.author)) = true then selfE g s e (memberE g s e.author)
  else if (memberE g s e.author == 1) = false then 11
  else if (e.kind == 2) = true then otherE g s e (levelE g s e.author)
  else if (e.kind == 3) = true then den (powerE g s e (levelE g s e.author))
  else if ((e.kind == 4) || ((e.kind == 5) || (e.kind == 6))) = true then den (decide (levelE g s e.author < 50))
  else if (e.kind == 8) = true then (if (atE g.events e.key).isSome = true then den (decide (levelE g s e.author < 50) && !(((atE g.events e.key).getD zE).author == e.author)) else 6)
  else 0
theorem bne_not (a b : Int) : (a != b) = !(a == b) := rfl
theorem c_self (g : Gr) (s : List Ent) (e : Ev) (m : Int) (h : GS g s) : Con P 218 [.agg (encGr g), .sl 3 (s.map encEnt), .agg (encEv e), .int .i64 m] (.int .i64 (selfE g s e m)) := by
  have h1 : List.take 3 (encGr g) = encGr g := rfl
  have h2 : 3 ≤ (encGr g).length := Nat.le_refl 3
  unfold selfE
  refine Con.of (n := 60) (rs := [.tmp 8]) (Is.fn Try.func218) rfl (Is.call Try.call218) Try.results218 Try.ntmps218 trivial ?_
  simp (maxSteps := 4000000) only [method_specs_simp, seval, encEv, bne_not]
  cases k1 : (m == 1) <;> cases k2 : (m == 4)
  all_goals
    simp (maxSteps := 4000000) only [method_specs_simp, seval, encEv, bne_not, k1, k2]
    cases n1 : (e.n == 1)
    · simp (maxSteps := 4000000) only [method_specs_simp, seval, encEv, bne_not]
      cases n2 : (e.n == 2)
      · simp (maxSteps := 4000000) only [method_specs_simp, seval, encEv, bne_not]
        try simp
      · simp (maxSteps := 4000000) only [method_specs_simp, seval, encEv, bne_not]
        refine clY.con (c_deniedIf _) (by simp only [method_specs_simp, encEv, bne_not]) ?_
        simp (maxSteps := 4000000) only [method_specs_simp, seval, encEv, bne_not]
        try simp
    · simp (maxSteps := 4000000) only [method_specs_simp, seval, encEv, bne_not]
      refine ⟨h2, ?_⟩
      rw [h1]
      refine clY.con (c_current g s 5 0 h) (by simp only [method_specs_simp, encEv, bne_not]) ?_
      simp (maxSteps := 4000000) only [method_specs_simp, seval, encEv, bne_not]
      refine ⟨h2, ?_⟩
      rw [h1]
      refine clY.con (c_current g s 1 0 h) (by simp only [method_specs_simp, encEv, bne_not]) ?_
      simp (maxSteps := 4000000) only [method_specs_simp, seval, encEv, bne_not]
      cases k3 : (m == 3) <;> cases k4 : (((curE g s 5 0).getD zE).n == 1) <;> cases k5 : (((curE g s 1 0).getD zE).author == e.author)
      all_goals
        try simp (maxSteps := 4000000) only [k3, k4, k5, method_specs_simp, seval]
        refine clY.con (c_deniedIf _) (by simp only [method_specs_simp]) ?_
        simp (maxSteps := 4000000) only [method_specs_simp, seval, encEv, bne_not]
        try simp
theorem c_other (g : Gr) (s : List Ent) (e : Ev) (p : Int) (h : GS g s) : Con P 219 [.agg (encGr g), .sl 3 (s.map encEnt), .agg (encEv e), .int .i64 p] (.int .i64 (otherE g s e p)) := by
  have h1 : List.take 3 (encGr g) = encGr g := rfl
  have h2 : 3 ≤ (encGr g).length := Nat.le_refl 3
  unfold otherE
  refine Con.of (n := 60) (rs := [.tmp 8]) (Is.fn Try.func219) rfl (Is.call Try.call219) Try.results219 Try.ntmps219 trivial ?_
  simp (maxSteps := 4000000) only [method_specs_simp, seval, encEv, bne_not]
  refine ⟨by kernel_rfl, h2, ?_⟩
  rw [h1]
  refine clY.con (c_member g s e.key h) (by simp only [method_specs_simp, encEv, bne_not]) ?_
  simp (maxSteps := 4000000) only [method_specs_simp, seval, encEv, bne_not]
  refine ⟨h2, ?_⟩
  rw [h1]
  refine clY.con (c_level g s e.key h) (by simp only [method_specs_simp, encEv, bne_not]) ?_
  simp (maxSteps := 4000000) only [method_specs_simp, seval, encEv, bne_not]
  unfold weakE
  cases k1 : decide (p < 50) <;> cases k2 : decide (p ≤ levelE g s e.key) <;> cases k3 : (memberE g s e.key == 0) <;> cases k4 : (memberE g s e.key == 1) <;> cases k5 : (memberE g s e.key == 2) <;> cases k6 : (memberE g s e.key == 3)
  all_goals
    simp (maxSteps := 4000000) only [method_specs_simp, seval, encEv, bne_not, k1, k2, k3, k4, k5, k6]
    cases n1 : (e.n == 4)
    · simp (maxSteps := 4000000) only [method_specs_simp, seval, encEv, bne_not]
      cases n2 : (e.n == 2)
      · simp (maxSteps := 4000000) only [method_specs_simp, seval, encEv, bne_not]
        cases n3 : (e.n == 3)
        · simp (maxSteps := 4000000) only [method_specs_simp, seval, encEv, bne_not]
          try simp
        · simp (maxSteps := 4000000) only [method_specs_simp, seval, encEv, bne_not]
          refine clY.con (c_deniedIf _) (by simp only [method_specs_simp, encEv, bne_not]) ?_
          simp (maxSteps := 4000000) only [method_specs_simp, seval, encEv, bne_not]
          try simp
      · simp (maxSteps := 4000000) only [method_specs_simp, seval, encEv, bne_not]
        refine clY.con (c_deniedIf _) (by simp only [method_specs_simp, encEv, bne_not]) ?_
        simp (maxSteps := 4000000) only [method_specs_simp, seval, encEv, bne_not]
        try simp
    · simp (maxSteps := 4000000) only [method_specs_simp, seval, encEv, bne_not]
      refine clY.con (c_deniedIf _) (by simp only [method_specs_simp, encEv, bne_not]) ?_
      simp (maxSteps := 4000000) only [method_specs_simp, seval, encEv, bne_not]
      try simp
end
end Go.Proofs.Ytijkkaoeijigkaa
