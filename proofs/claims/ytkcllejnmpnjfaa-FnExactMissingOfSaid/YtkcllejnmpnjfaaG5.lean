/- A right graph, by the program. Conditions: sizes that fit a machine. -/
import Derived.Test.YtkcllejnmpnjfaaG4
namespace Go.Proofs.Ytkcllejnmpnjfaa
open Go.Pm
open Go.Gm (Ev Gr)
set_option maxRecDepth 10000
set_option linter.unusedSimpArgs false
set_option linter.unusedVariables false
theorem apart_sym (l m : List Ev) : (l.all fun e => !Gm.hasId m e.id) = (m.all fun e => !Gm.hasId l e.id) := by
  rw [Bool.eq_iff_iff]
  simp only [List.all_eq_true, Bool.not_eq_true', ← Bool.not_eq_true, Gm.hasId_iff]
  constructor
  · rintro h e he ⟨x, hx, hxe⟩
    exact h x hx ⟨e, he, hxe.symm⟩
  · rintro h e he ⟨x, hx, hxe⟩
    exact h x hx ⟨e, he, hxe.symm⟩
theorem grRight_impl (g : Gr) : (!(g.events.any fun e => !Gm.allIn g.events e) && (!(g.parked.any fun e => Gm.hasId g.events e.id || Gm.allIn g.events e) && Gm.allPos (Gm.depthsE g.events))) = ((g.events.all fun e => Gm.allIn g.events e && !Gm.hasId g.parked e.id) && ((g.parked.all fun e => !Gm.allIn g.events e) && Gm.allPos (Gm.depthsE g.events))) := by
  have h1 : (g.events.all fun e => Gm.allIn g.events e && !Gm.hasId g.parked e.id) = ((g.events.all fun e => Gm.allIn g.events e) && (g.events.all fun e => !Gm.hasId g.parked e.id)) := by
    rw [Bool.eq_iff_iff]; simp only [List.all_eq_true, Bool.and_eq_true]
    exact ⟨fun h => ⟨fun e he => (h e he).1, fun e he => (h e he).2⟩, fun h e he => ⟨h.1 e he, h.2 e he⟩⟩
  have h2 : (!(g.parked.any fun e => Gm.hasId g.events e.id || Gm.allIn g.events e)) = ((g.parked.all fun e => !Gm.hasId g.events e.id) && (g.parked.all fun e => !Gm.allIn g.events e)) := by
    rw [Bool.eq_iff_iff]; simp only [List.all_eq_true, Bool.and_eq_true, Bool.not_eq_true', List.any_eq_false, Bool.or_eq_true, not_or, Bool.not_eq_true]
    exact ⟨fun h => ⟨fun e he => (h e he).1, fun e he => (h e he).2⟩, fun h e he => ⟨h.1 e he, h.2 e he⟩⟩
  have h3 : (!(g.events.any fun e => !Gm.allIn g.events e)) = (g.events.all fun e => Gm.allIn g.events e) := by rw [List.all_eq_not_any_not]
  rw [h1, h2, h3, apart_sym g.events g.parked]
  cases (g.events.all fun e => Gm.allIn g.events e) <;> cases (g.parked.all fun e => !Gm.hasId g.events e.id) <;> cases (g.parked.all fun e => !Gm.allIn g.events e) <;> cases Gm.allPos (Gm.depthsE g.events) <;> rfl
section
variable {P : Program} [Is P]
theorem c_GR1 (g : Gr) (e : Ev) (he : EvOK e) (hx : g.events.length * 96 ≤ 2 ^ 47) (hs : Gm.Srt g.events) : Con P 195 [.agg (encEv e), .fptr (encGr g) 0] (.bool (!Gm.allIn g.events e)) := by
  refine Con.of (n := 8) (rs := [.tmp 3]) (Is.fn Try.func195) rfl (Is.call Try.call195) Try.results195 Try.ntmps195 trivial ?_
  simp (maxSteps := 4000000) only [method_specs_simp, seval]
  refine ⟨by simp [encGr], by simp [encEv], ?_⟩
  rw [show List.take 3 (encGr g) = encGr g from rfl, show List.take 9 (encEv e) = encEv e from rfl]
  refine clY.con (c_complete g e he hx hs) (by simp only [method_specs_simp]) ?_
  simp (maxSteps := 4000000) only [method_specs_simp, seval]
theorem c_GR2 (g : Gr) (e : Ev) (he : EvOK e) (hx : g.events.length * 96 ≤ 2 ^ 47) (hs : Gm.Srt g.events) : Con P 197 [.agg (encEv e), .fptr (encGr g) 0] (.bool (Gm.hasId g.events e.id || Gm.allIn g.events e)) := by
  have h1 : List.take 3 (encGr g) = encGr g := rfl
  refine Con.of (n := 13) (rs := [.tmp 3]) (Is.fn Try.func197) rfl (Is.call Try.call197) Try.results197 Try.ntmps197 trivial ?_
  simp (maxSteps := 4000000) only [method_specs_simp, seval, encEv]
  refine ⟨by simp [encGr], ?_⟩
  rw [h1]
  refine clY.con (c_has g e.id hx hs) (by simp only [method_specs_simp, encEv]) ?_
  simp (maxSteps := 4000000) only [method_specs_simp, seval, encEv]
  cases g1 : Gm.hasId g.events e.id
  · simp (maxSteps := 4000000) only [method_specs_simp, seval, encEv]
    refine ⟨by simp [encGr], ?_⟩
    rw [h1]
    refine clY.con (c_complete g e he hx hs) (by simp only [method_specs_simp, encEv]) ?_
    simp (maxSteps := 4000000) only [method_specs_simp, seval, encEv]
    simp
  · simp (maxSteps := 4000000) only [method_specs_simp, seval, encEv]
    simp
theorem c_GraphRight (g : Gr) (hg : GrOK g) : Con P 134 [.agg (encGr g)] (.bool (Gm.grRight g)) := by
  have hg1 := hg.1.1
  have hg2 := hg.2.1
  refine Con.of (n := 49) (rs := [.tmp 2]) (Is.fn Try.func134) rfl (Is.call Try.call134) Try.results134 Try.ntmps134 trivial ?_
  simp (maxSteps := 4000000) only [method_specs_simp, seval, encGr]
  refine clY.con (c_isRoom g.room) (by simp only [method_specs_simp, encGr]) ?_
  simp (maxSteps := 4000000) only [method_specs_simp, seval, encGr]
  cases g1 : Gm.isB g.room 1 3
  · simp (maxSteps := 4000000) only [method_specs_simp, seval, encGr]
    simp [Gm.grRight, g1]
  · simp (maxSteps := 4000000) only [method_specs_simp, seval, encGr]
    cases g2 : decide ((g.events.length : Int) > 60)
    rotate_left
    · simp (maxSteps := 4000000) only [method_specs_simp, seval, encGr, g2]
      have : ¬ ((g.events.length : Int) ≤ 60) := by simp at g2; omega
      simp [Gm.grRight, Gm.rowR, this]
    have l1 : decide ((g.events.length : Int) ≤ 60) = true := by simp at g2 ⊢; omega
    simp (maxSteps := 4000000) only [method_specs_simp, seval, encGr, g2]
    cases g3 : decide ((g.parked.length : Int) > 20)
    rotate_left
    · simp (maxSteps := 4000000) only [method_specs_simp, seval, encGr, g3]
      have : ¬ ((g.parked.length : Int) ≤ 20) := by simp at g3; omega
      simp [Gm.grRight, Gm.rowR, this]
    have l2 : decide ((g.parked.length : Int) ≤ 20) = true := by simp at g3 ⊢; omega
    simp (maxSteps := 4000000) only [method_specs_simp, seval, encGr, g3]
    refine clY.con (c_areRight g g.events hg.1) (by simp only [method_specs_simp, encGr]) ?_
    simp (maxSteps := 4000000) only [method_specs_simp, seval, encGr]
    cases g4 : Gm.rowFrom g.room none g.events
    · simp (maxSteps := 4000000) only [method_specs_simp, seval, encGr]
      simp [Gm.grRight, Gm.rowR, g4]
    simp (maxSteps := 4000000) only [method_specs_simp, seval, encGr]
    refine clY.con (c_areRight g g.parked hg.2) (by simp only [method_specs_simp, encGr]) ?_
    simp (maxSteps := 4000000) only [method_specs_simp, seval, encGr]
    cases g5 : Gm.rowFrom g.room none g.parked
    · simp (maxSteps := 4000000) only [method_specs_simp, seval, encGr]
      simp [Gm.grRight, Gm.rowR, g5]
    simp (maxSteps := 4000000) only [method_specs_simp, seval, encGr]
    have hs := (Gm.rowFrom_srt g4).1
    have hR := grRight_impl g
    have hG : Gm.grRight g = (!(g.events.any fun e => !Gm.allIn g.events e) && (!(g.parked.any fun e => Gm.hasId g.events e.id || Gm.allIn g.events e) && Gm.allPos (Gm.depthsE g.events))) := by
      rw [hR]
      simp only [Gm.grRight, Gm.rowR, g1, l1, l2, g4, g5, Bool.true_and]
    rw [hG]
    refine clY.conF (c_containsFE g.events _ [.fptr (encGr g) 0] (fun e => !Gm.allIn g.events e) ⟨encGr_ref1 _ g, trivial⟩ (fun x hx => c_GR1 g x (hg.1.2 x hx) hg1 hs) (by omega)) (by simp only [method_specs_simp, encGr]) ⟨of_eq_true (encEv_refs _ _), ⟨trivial, encGr_ref1 _ g, trivial⟩, trivial⟩ trivial ?_
    simp (maxSteps := 4000000) only [method_specs_simp, seval, encGr]
    cases g6 : (g.events.any fun e => !Gm.allIn g.events e)
    rotate_left
    · simp (maxSteps := 4000000) only [method_specs_simp, seval, encGr]
      simp
    simp (maxSteps := 4000000) only [method_specs_simp, seval, encGr]
    refine clY.conF (c_containsFE g.parked _ [.fptr (encGr g) 0] (fun e => Gm.hasId g.events e.id || Gm.allIn g.events e) ⟨encGr_ref1 _ g, trivial⟩ (fun x hx => c_GR2 g x (hg.2.2 x hx) hg1 hs) (by omega)) (by simp only [method_specs_simp, encGr]) ⟨of_eq_true (encEv_refs _ _), ⟨trivial, encGr_ref1 _ g, trivial⟩, trivial⟩ trivial ?_
    simp (maxSteps := 4000000) only [method_specs_simp, seval, encGr]
    cases g7 : (g.parked.any fun e => Gm.hasId g.events e.id || Gm.allIn g.events e)
    rotate_left
    · simp (maxSteps := 4000000) only [method_specs_simp, seval, encGr]
      simp
    simp (maxSteps := 4000000) only [method_specs_simp, seval, encGr]
    have hin : ∀ e ∈ g.events, Gm.allIn g.events e = true := fun e he => by
      have := List.any_eq_false.1 g6 e he
      simpa using this
    refine clY.con (c_depths g hg.1 hs hin) (by simp only [method_specs_simp, encGr]) ?_
    simp (maxSteps := 4000000) only [method_specs_simp, seval, encGr]
end
end Go.Proofs.Ytkcllejnmpnjfaa
