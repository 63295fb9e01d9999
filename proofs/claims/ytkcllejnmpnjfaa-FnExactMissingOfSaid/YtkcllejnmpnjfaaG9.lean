/- What is allowed, by the reference. Conditions: order, sizes that fit a machine. -/
import Derived.Test.YtkcllejnmpnjfaaG8
import Derived.Test.YtkcllejnmpnjfaaG6
namespace Go.Proofs.Ytkcllejnmpnjfaa
open Go.Pm
open Go.Gm (Ev Gr)
set_option maxRecDepth 10000
set_option linter.unusedSimpArgs false
set_option linter.unusedVariables false
set_option maxHeartbeats 1000000
/-- A state of a graph: every entry's event is there. -/
structure LS (g : Gr) (s : List Ent) : Prop extends GS g s where
  hz : ∀ k q, (idS s k q = 0 ∧ curE g s k q = none) ∨ (0 < idS s k q ∧ Gm.hasId g.events (idS s k q) = true)
theorem LS.dec {g : Gr} {s : List Ent} (h : LS g s) (k q : Int) : decide (idS s k q > 0) = (curE g s k q).isSome := by
  unfold curE
  rw [atE_has]
  rcases h.hz k q with ⟨h1, h2⟩ | ⟨h1, h2⟩
  · unfold curE at h2
    rw [← atE_has, h2, h1]; rfl
  · rw [h2]; simpa using h1
theorem LS.eqz {g : Gr} {s : List Ent} (h : LS g s) (k q : Int) : (idS s k q == 0) = !(curE g s k q).isSome := by
  rw [← h.dec]
  rcases h.hz k q with ⟨h1, _⟩ | ⟨h1, _⟩
  · rw [h1]; rfl
  · have : ¬ (idS s k q = 0) := by omega
    rw [show (idS s k q == 0) = false by simpa using this]
    simp [h1]
section
variable {P : Program} [Is P]
theorem idS_go (s : List Ent) (kind key : Int) (k : Nat) : idS (s.drop k) kind key = match s[k]? with
  | none => 0
  | some x => if ((x.kind == kind) && (x.key == key)) = true then x.id else idS (s.drop (k + 1)) kind key := by
  cases h : s[k]? with
  | none => rw [List.drop_eq_nil_of_le (by simpa using h)]; rfl
  | some x =>
    rw [drop_cons h]
    unfold idS
    rw [List.find?_cons]
    unfold isK
    cases hb : ((x.kind == kind) && (x.key == key)) <;> simp [hb]
theorem c_l04At (s : List Ent) (kind key : Int) (hx : s.length < 2 ^ 62) : Con P 171 [.sl 3 (s.map encEnt), .int .i64 kind, .int .i64 key] (.int .i64 (idS s kind key)) := by
  refine Con.of (n := 35) (rs := [.tmp 6]) (Is.fn Try.func171) rfl (Is.call Try.call171) Try.results171 Try.ntmps171 trivial ?_
  simp (maxSteps := 4000000) only [method_specs_simp, seval]
  refine SW.while (A := Nat) (fun k => ⟨pad 35 [.sl 3 (s.map encEnt), .int .i64 kind, .int .i64 key, .junk, .junk, .junk, .int .i64 0, .int .i64 k], [], []⟩) (fun k => s.length - k)
    (fun k => k ≤ s.length ∧ idS s kind key = idS (s.drop k) kind key) 0 [] ⟨Nat.zero_le _, rfl⟩ ?_ ?_
  · simp only [mvcgen_simp, method_specs_simp, seval]
  · rintro k ⟨hk, hr⟩
    rw [hr, idS_go]
    refine CW.sound ?_
    simp (maxSteps := 4000000) only [method_specs_simp, seval]
    refine gB_split (fun h => ?_) (fun h => ?_)
    · simp only [decide_eq_true_eq, Int.ofNat_lt] at h
      obtain ⟨x, hxk⟩ : ∃ x, s[k]? = some x := ⟨_, List.getElem?_eq_getElem h⟩
      simp (maxSteps := 4000000) only [List.getElem?_map, hxk, encEnt, method_specs_simp, seval]
      refine ⟨by omega, by omega, ?_⟩
      cases k1 : (x.kind == kind)
      · simp (maxSteps := 4000000) only [method_specs_simp, seval]
        rw [wrap_id (by omega) (by omega)]
        refine Again.mk (k + 1) [] ⟨h, ?_⟩ (Nat.sub_lt_sub_left h (Nat.lt_succ_self _)) ?_
        · simp [k1]
        · simp only [mvcgen_simp, method_specs_simp, seval]
      · simp (maxSteps := 4000000) only [method_specs_simp, seval]
        refine ⟨by omega, by omega, ?_⟩
        cases k2 : (x.key == key)
        · simp (maxSteps := 4000000) only [method_specs_simp, seval]
          rw [wrap_id (by omega) (by omega)]
          refine Again.mk (k + 1) [] ⟨h, ?_⟩ (Nat.sub_lt_sub_left h (Nat.lt_succ_self _)) ?_
          · simp [k1, k2]
          · simp only [mvcgen_simp, method_specs_simp, seval]
        · simp (maxSteps := 4000000) only [method_specs_simp, seval]
          simp
          omega
    · simp only [decide_eq_false_iff_not, Bool.not_true, Int.ofNat_lt] at h
      rw [List.getElem?_eq_none (by omega)]
theorem entOf_no {g : Gr} {x : Ent} (h : Gm.hasId g.events x.id = false) : entOf g x = false := by
  unfold entOf; rw [atE_has, h]; rfl
theorem entOf_at {g : Gr} {x : Ent} {e : Ev} (h : Gm.hasId g.events x.id = true) (he : g.events[Gm.fidE g.events x.id]? = some e) : entOf g x = ((e.kind == x.kind) && (e.key == x.key)) := by
  unfold entOf; rw [atE_has, h, ← fid_at h, he]; rfl
theorem grRight_pos {g : Gr} (h : Gm.grRight g = true) : ∀ e ∈ g.events, 1 ≤ e.id := by
  simp only [Gm.grRight, Gm.rowR, Bool.and_eq_true] at h
  intro e he
  have := ((Gm.rowFrom_srt h.2.1.2).2 e he).1
  simp only [Gm.evRight, Bool.and_eq_true, Gm.isB_iff] at this
  omega
theorem LS.of {g : Gr} {s : List Ent} (hg : GrOK g) (hl : s.length * 24 ≤ 2 ^ 47) (hr : Gm.grRight g = true) (hst : stateE g s = true) : LS g s := by
  refine ⟨⟨hg.1.1, (grRight_srt hr).1, hl, (stateE_ss hst).1⟩, fun k q => ?_⟩
  have hp := grRight_pos hr
  unfold idS curE idS
  cases hf : s.find? (isK k q) with
  | none =>
    refine Or.inl ⟨rfl, ?_⟩
    show atE g.events 0 = none
    refine List.find?_eq_none.2 fun e he => ?_
    have := hp e he
    simp only [beq_iff_eq]
    omega
  | some x =>
    have h1 := List.mem_of_find?_eq_some hf
    simp only [stateE, Bool.and_eq_true, List.all_eq_true] at hst
    have h2 := hst.2 x h1
    simp only [entOf, Bool.and_eq_true] at h2
    have h3 := h2.1
    rw [atE_has] at h3
    obtain ⟨e, h4, h5⟩ := Gm.fid_get h3
    have := hp e (List.mem_of_getElem? h4)
    exact Or.inr ⟨by show 0 < x.id; omega, h3⟩
end
end Go.Proofs.Ytkcllejnmpnjfaa
